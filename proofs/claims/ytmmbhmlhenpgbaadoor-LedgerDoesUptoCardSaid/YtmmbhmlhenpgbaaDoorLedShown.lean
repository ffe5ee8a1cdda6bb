/- Proved: the law's 'shown' is true. -/
import Derived.Test.YtmmbhmlhenpgbaaDoorLedPost3
namespace Go.Proofs.YtmmbhmlhenpgbaaDoor
open Go.RowKit
open Led
set_option linter.unusedVariables false
set_option linter.unusedSimpArgs false
set_option maxRecDepth 100000
theorem balOf_add {D : DataW Unit} {x : Leg} {p c : ByteArray} (hD : Maps.IsMap D) (h1 : x.party.size ≤ maxLen) (h2 : x.cur.size ≤ maxLen) (h3 : p.size ≤ maxLen) (h4 : c.size ≤ maxLen) :
    balOf (addLeg D x) p c = if x.party = p ∧ x.cur = c then wrap64 (balOf D p c + x.amount) else balOf D p c := by
  by_cases h : x.party = p ∧ x.cur = c
  · obtain ⟨rfl, rfl⟩ := h
    rw [if_pos ⟨rfl, rfl⟩]
    conv => lhs; unfold balOf addLeg
    rw [Maps.atKey_put_same hD (accK_is _ _ h1 h2)]
  · rw [if_neg h]
    unfold balOf addLeg
    rw [Maps.atKey_put_other (fun e => h (by
      have := accK_inj h3 h4 h1 h2 e
      exact ⟨this.1.symm, this.2.symm⟩))]
theorem isMap_add {D : DataW Unit} (h : Maps.IsMap D) (x : Leg) : Maps.IsMap (addLeg D x) := h.put _ _
def ann : ByteArray := ⟨#[97, 110, 110]⟩
def bob : ByteArray := ⟨#[98, 111, 98]⟩
def eur : ByteArray := ⟨#[69, 85, 82]⟩
def onePost : Post := ⟨5, 1, [⟨ann, eur, 10⟩, ⟨bob, eur, -10⟩]⟩
def twoPost : Post := ⟨5, 1, [⟨ann, eur, 10⟩, ⟨bob, eur, -9⟩]⟩
theorem one_right : right onePost = true := by decide +kernel
theorem two_right : right twoPost = false := by decide +kernel
theorem one_is : addAll (.map []) [onePost] = addLeg (addLeg (.map []) ⟨ann, eur, 10⟩) ⟨bob, eur, -10⟩ := rfl
theorem bal_empty (p c : ByteArray) : balOf (.map []) p c = 0 := by unfold balOf; rfl
theorem bal_ann : balOf (addAll (.map []) [onePost]) ann eur = 10 := by
  rw [one_is, balOf_add (isMap_add Maps.isMap_empty _) (by decide) (by decide) (by decide) (by decide), if_neg (by decide), balOf_add Maps.isMap_empty (by decide) (by decide) (by decide) (by decide), if_pos ⟨rfl, rfl⟩, bal_empty]
  show wrap64 (0 + 10) = 10
  unfold wrap64; omega
theorem bal_bob : balOf (addAll (.map []) [onePost]) bob eur = -10 := by
  rw [one_is, balOf_add (isMap_add Maps.isMap_empty _) (by decide) (by decide) (by decide) (by decide), if_pos ⟨rfl, rfl⟩, balOf_add Maps.isMap_empty (by decide) (by decide) (by decide) (by decide), if_neg (by decide), bal_empty]
  show wrap64 (0 + -10) = -10
  unfold wrap64; omega
theorem tidy_add {D : DataW Unit} (h : Maps.Tidy D) (x : Leg) (h1 : x.party.size ≤ maxLen) (h2 : x.cur.size ≤ maxLen) : Maps.Tidy (addLeg D x) := h.put (accK_is _ _ h1 h2) _
theorem size_add {D : DataW Unit} (h : Maps.Tidy D) (x : Leg) : Maps.size (addLeg D x) ≤ Maps.size D + 1 := by
  unfold addLeg
  rw [Maps.size_put h]
  split <;> omega
theorem code_one : postCode 0 (.map []) [onePost] = 0 := by
  unfold postCode
  rw [if_neg (by decide +kernel), if_neg]
  rintro (h | h)
  · simp at h
  · rw [one_is] at h
    have h1 := size_add (tidy_add Maps.tidy_empty ⟨ann, eur, 10⟩ (by decide) (by decide)) ⟨bob, eur, -10⟩
    have h2 := size_add Maps.tidy_empty ⟨ann, eur, 10⟩
    have h3 : Maps.size (.map [] : DataW Unit) = 0 := rfl
    omega
theorem code_two (q : Nat) (M : DataW Unit) : postCode q M [twoPost] = 200 := by
  unfold postCode
  rw [if_pos (by decide +kernel)]
/-- A posting of two legs that the call has laid, whole. -/
structure LitAt (g : Nat) (a b : Leg) (W : World) : Prop where
  blk : W.heap[g]? = some (.cells #[.string a.party, .string a.cur, .int .i64 a.amount, .string b.party, .string b.cur, .int .i64 b.amount] 41 (0, 0))
theorem LitAt.legs {g : Nat} {a b : Leg} {W : World} (h : LitAt g a b W) (ha : Fits a) (hb : Fits b) : LegsAt W (.slice (some ⟨g, 0, none⟩) 2 2) [a, b] := by
  refine Or.inr ⟨g, 0, 2, rfl, Nat.le_refl _, by decide, lt_of_block h.blk, fun i x hx => ?_⟩
  have h1 := ha.party
  have h2 := ha.cur
  have h3 := hb.party
  have h4 := hb.cur
  match i, hx with
  | 0, hx =>
    simp at hx; subst hx
    exact ⟨by simp [World.cell?, h.blk], by simp [World.cell?, h.blk], by simp [World.cell?, h.blk], by omega, by omega, ha.lo, ha.hi⟩
  | 1, hx =>
    simp at hx; subst hx
    exact ⟨by simp [World.cell?, h.blk], by simp [World.cell?, h.blk], by simp [World.cell?, h.blk], by omega, by omega, hb.lo, hb.hi⟩
theorem lit_posts {lb : Nat} {pv : Value} {g g2 : Nat} {a b : Leg} {d i : Int} {W : World} (hl : LitAt g a b W) (h2 : W.heap[g2]? = some (.cells #[.int .i64 d, .int .i64 i, .slice (some ⟨g, 0, none⟩) 2 2] 24 (0, 0)))
    (ha : Fits a) (hb : Fits b) (hd : -9223372036854775808 ≤ d ∧ d ≤ 9223372036854775807) (hi : -9223372036854775808 ≤ i ∧ i ≤ 9223372036854775807) (n1 : g ≠ lb) (n2 : g2 ≠ lb) (n3 : some g ≠ pv.ownBlock) (n4 : some g2 ≠ pv.ownBlock) :
    ∀ W', Only lb pv W W' → PostsAt W' (.slice (some ⟨g2, 0, none⟩) 1 1) [⟨d, i, [a, b]⟩] := by
  intro W' ho
  have hl' : LitAt g a b W' := ⟨(ho.block g (lt_of_block hl.blk) n1 n3).trans hl.blk⟩
  have h2' := (ho.block g2 (lt_of_block h2) n2 n4).trans h2
  refine Or.inr ⟨g2, 0, 1, rfl, Nat.le_refl _, by decide, lt_of_block h2', fun j x hx => ?_⟩
  match j, hx with
  | 0, hx =>
    simp at hx; subst hx
    exact ⟨by simp [World.cell?, h2'], by simp [World.cell?, h2'], ⟨_, by simp [World.cell?, h2'], hl'.legs ha hb⟩, hd.1, hd.2, hi.1, hi.2⟩
theorem fits_ann (n : Int) (h : -9223372036854775808 ≤ n ∧ n ≤ 9223372036854775807) : Fits ⟨ann, eur, n⟩ := ⟨show ann.size ≤ 24 by decide, show eur.size ≤ 24 by decide, h.1, h.2⟩
theorem fits_bob (n : Int) (h : -9223372036854775808 ≤ n ∧ n ≤ 9223372036854775807) : Fits ⟨bob, eur, n⟩ := ⟨show bob.size ≤ 24 by decide, show eur.size ≤ 24 by decide, h.1, h.2⟩
def OneGives (w : World) (e : Ending) (w' : World) : Prop := ∃ g, e = .returned (.agg #[.int .i64 5, .int .i64 1, .slice (some ⟨g, 0, none⟩) 2 2]) ∧ LitAt g ⟨ann, eur, 10⟩ ⟨bob, eur, -10⟩ w' ∧ w.heap.size ≤ g ∧ Below w.heap.size w w'
theorem one_any (w : World) : Calls Tryd.prog 25 #[.int .i64 10] w (OneGives w) := by
  go_enter Tryd.func25, Tryd.ntmps25
  go_wp2_with fail
  refine bodyPost_ret (v := .agg #[.int .i64 5, .int .i64 1, .slice (some ⟨w.heap.size + 1, 0, none⟩) 2 2]) ?_ rfl ?_
  · simp [results, Tryd.results25, go_sem]
  · refine ⟨w.heap.size + 1, rfl, ⟨?_⟩, by omega, ((Below.refl _ _).alloc (Nat.le_refl _) _).alloc (by simp) _⟩
    have := heap_alloc_new (w.alloc (.cells #[.int .i64 5, .int .i64 1, .slice (some ⟨w.heap.size + 1, 0, none⟩) 2 2] 24)) (.cells #[.string ann, .string eur, .int .i64 10, .string bob, .string eur, .int .i64 (-10)] 41)
    rw [World.size_alloc] at this
    exact this
set_option maxHeartbeats 4000000 in
theorem shown_any (w : World) : Calls Tryd.prog 10 #[] w (True1 w) := by
  go_enter Tryd.func10, Tryd.ntmps10
  go_wp2_with fail
  refine (new_any w).mono ?_
  rintro e w1 ⟨lb, mb, rfl, hl1, hb1⟩
  have HL1 := hid' hl1
  have HB1 := hid' hb1
  clear hl1 hb1
  go_wp2_with fail
  refine (one_any w1).mono ?_
  rintro e w2 ⟨g, rfl, hl2, hg2, hb2⟩
  have HL2 := hid' (HL1.out.below hb2)
  have HB2 := hid' (Below.more HB1.out hb2)
  have HG := hid' (lit_posts (lb := lb) (pv := .slice none 0 0) (g := g) (g2 := w2.heap.size) (d := 5) (i := 1) (W := w2.alloc (.cells #[.int .i64 5, .int .i64 1, .slice (some ⟨g, 0, none⟩) 2 2] 24)) ⟨by rw [Below.heap_alloc _ _ _ (lt_of_block hl2.blk)]; exact hl2.blk⟩ (heap_alloc_new _ _) (fits_ann 10 (by omega)) (fits_bob (-10) (by omega)) (by omega) (by omega)
    (by have := lt_of_block HL1.out.hb; omega) (by have := lt_of_block HL2.out.hb; omega) (fun e => by cases e) (fun e => by cases e))
  have HL3 := hid' (HL2.out.below ((Below.refl _ _).alloc (Nat.le_refl _) (.cells #[.int .i64 5, .int .i64 1, .slice (some ⟨g, 0, none⟩) 2 2] 24)))
  have HB3 := hid' (HB2.out.trans ((Below.refl _ _).alloc HB2.out.size (.cells #[.int .i64 5, .int .i64 1, .slice (some ⟨g, 0, none⟩) 2 2] 24)))
  clear hl2 hg2 hb2
  go_wp2_with fail
  refine (post_any w.heap.size lb _ mb 0 [] (.map []) _ HL3.out (by omega) (by simp) _ [onePost] HG.out (by simp)).mono ?_
  rintro e w3 ⟨_, hp⟩
  obtain ⟨rfl, mb2, pv2, q2, hs⟩ := hp code_one
  have HS := hid' hs.led
  have HB4 := hid' (HB3.out.trans (hs.only.to_below HL3.out.lo (fun k e => by cases e) HB3.out.size))
  have HQ2 := hid' (show q2.length ≤ 4096 by have := hs.len; simp at this; omega)
  clear hs hp HG HL3 HB3 HL2 HB2 HL1 HB1
  have hown : ∀ k, pv2.ownBlock = some k → k < w3.heap.size := fun k e => (World.ownsRow.lt HS.out.own k e).2
  have hB5 : Below w3.heap.size w3 ((w3.alloc (.cells #[.string ann, .string eur, .int .i64 10, .string bob, .string eur, .int .i64 (-9)] 41)).alloc (.cells #[.int .i64 5, .int .i64 1, .slice (some ⟨w3.heap.size, 0, none⟩) 2 2] 24)) := ((Below.refl _ _).alloc (Nat.le_refl _) _).alloc (by simp) _
  have HG := hid' (lit_posts (lb := lb) (pv := pv2) (g := w3.heap.size) (g2 := w3.heap.size + 1) (a := ⟨ann, eur, 10⟩) (b := ⟨bob, eur, -9⟩) (d := 5) (i := 1) (W := (w3.alloc (.cells #[.string ann, .string eur, .int .i64 10, .string bob, .string eur, .int .i64 (-9)] 41)).alloc (.cells #[.int .i64 5, .int .i64 1, .slice (some ⟨w3.heap.size, 0, none⟩) 2 2] 24))
    ⟨by rw [Below.heap_alloc _ _ _ (by simp)]; exact heap_alloc_new _ _⟩ (by have := heap_alloc_new (w3.alloc (.cells #[.string ann, .string eur, .int .i64 10, .string bob, .string eur, .int .i64 (-9)] 41)) (.cells #[.int .i64 5, .int .i64 1, .slice (some ⟨w3.heap.size, 0, none⟩) 2 2] 24); rw [World.size_alloc] at this; exact this) (fits_ann 10 (by omega)) (fits_bob (-9) (by omega)) (by omega) (by omega)
    (by have := lt_of_block HS.out.hb; omega) (by have := lt_of_block HS.out.hb; omega) (fun e => by have := hown _ e.symm; omega) (fun e => by have := hown _ e.symm; omega))
  have HL5 := hid' (HS.out.below hB5)
  have HB5 := hid' (Below.more HB4.out hB5)
  clear hown hB5
  go_wp2_with fail
  refine (post_any w.heap.size lb _ mb2 256 q2 _ _ HL5.out (by omega) HQ2.out _ [twoPost] HG.out (by simp)).mono ?_
  rintro e w4 ⟨hp, _⟩
  rw [code_two] at hp
  obtain ⟨rfl, b4⟩ := hp (by decide)
  have HL6 := hid' (HL5.out.below b4)
  have HB6 := hid' (Below.more HB5.out b4)
  have HA1 := hid' (balance_any w.heap.size lb _ mb2 256 q2 _ w4 HL6.out ann eur (by decide) (by decide))
  have HA2 := hid' (balance_any w.heap.size lb _ mb2 256 q2 _ w4 HL6.out bob eur (by decide) (by decide))
  rw [bal_ann] at HA1
  rw [bal_bob] at HA2
  clear hp b4 HL5 HB5 HG HS HB4
  go_wp2_with fail
  refine HA1.out.mono ?_
  rintro e w5 ⟨rfl, rfl⟩
  go_wp2_with fail
  refine HA2.out.mono ?_
  rintro e w6 ⟨rfl, rfl⟩
  go_wp2_with fail
  go_ret
  exact ⟨rfl, HB6.out⟩
end Go.Proofs.YtmmbhmlhenpgbaaDoor
