/- Proved: the laws LedgerBytes, LedgerBack as calls that return true. -/
import Derived.Test.YtmmbhmlhenpgbaaDoorLedShown
import Derived.Test.YtmmbhmlhenpgbaaDoorLedDec2
import Derived.Test.YtmmbhmlhenpgbaaDoorRefDec
import Derived.Test.YtmmbhmlhenpgbaaDoorRefEnc
import Derived.Test.YtmmbhmlhenpgbaaDoorRefSame
namespace Go.Proofs.YtmmbhmlhenpgbaaDoor
open Go.RowKit
open Led
set_option linter.unusedVariables false
set_option linter.unusedSimpArgs false
set_option maxRecDepth 100000
/-- One posting in a block of its own reads as a list of one. -/
theorem one_posts {W : World} {g : Nat} {p : Post} {lv : Value} (h : W.heap[g]? = some (.cells #[.int .i64 p.day, .int .i64 p.id, lv] 24 (0, 0))) (hl : LegsAt W lv p.legs)
    (hd : -9223372036854775808 ≤ p.day ∧ p.day ≤ 9223372036854775807) (hi : -9223372036854775808 ≤ p.id ∧ p.id ≤ 9223372036854775807) : PostsAt W (.slice (some ⟨g, 0, none⟩) 1 1) [p] := by
  refine Or.inr ⟨g, 0, 1, rfl, Nat.le_refl _, by decide, lt_of_block h, fun j x hx => ?_⟩
  match j, hx with
  | 0, hx =>
    simp at hx; subst hx
    exact ⟨by simp [World.cell?, h], by simp [World.cell?, h], ⟨lv, by simp [World.cell?, h], hl⟩, hd.1, hd.2, hi.1, hi.2⟩
theorem decOf_in (l : List UInt8) : (-9223372036854775808 ≤ (decOf l).1.day ∧ (decOf l).1.day ≤ 9223372036854775807) ∧ (-9223372036854775808 ≤ (decOf l).1.id ∧ (decOf l).1.id ≤ 9223372036854775807) := by
  unfold decOf
  cases h : dec l with
  | none => exact ⟨⟨by decide, by decide⟩, by decide, by decide⟩
  | some p =>
    have := head_parts (right_parts (enc_dec h).2).1
    exact ⟨⟨by show -9223372036854775808 ≤ p.day; omega, by show p.day ≤ 9223372036854775807; omega⟩, by show -9223372036854775808 ≤ p.id; omega, by show p.id ≤ 9223372036854775807; omega⟩
def EncAs (eb : List UInt8) (ec : Int) (w : World) (e : Ending) (w' : World) : Prop := ∃ v, e = .returned (.tuple #[v, .int .i64 ec]) ∧ Owns w.heap.size w' v (nums eb) ∧ Below w.heap.size w w'
theorem encAs {p : Post} {eb : List UInt8} {ec : Int} {w w' : World} {e : Ending} (he : encOf p = (eb, ec)) (h : EncPost p w e w') : EncAs eb ec w e w' := by
  unfold EncPost at h; rw [he] at h; exact h
def DecAs (day id : Int) (L : List Leg) (c : Int) (w : World) (e : Ending) (w' : World) : Prop := ∃ lv, e = .returned (.tuple #[.agg #[.int .i64 day, .int .i64 id, lv], .int .i64 c]) ∧ LegsAt w' lv L ∧ Below w.heap.size w w'
theorem decAs {l : List UInt8} {day id : Int} {L : List Leg} {c : Int} {w w' : World} {e : Ending} (he : decOf l = (⟨day, id, L⟩, c)) (h : DecPost l w e w') : DecAs day id L c w e w' := by
  unfold DecPost at h; rw [he] at h; exact h
theorem two_boxes (W : World) (p q : Post) (lv lu : Value) (hl : LegsAt W lv p.legs) (hu : LegsAt W lu q.legs) (hd : -9223372036854775808 ≤ p.day ∧ p.day ≤ 9223372036854775807) (hi : -9223372036854775808 ≤ p.id ∧ p.id ≤ 9223372036854775807)
    (gd : -9223372036854775808 ≤ q.day ∧ q.day ≤ 9223372036854775807) (gi : -9223372036854775808 ≤ q.id ∧ q.id ≤ 9223372036854775807) :
    PostsAt ((W.alloc (.cells #[.int .i64 p.day, .int .i64 p.id, lv] 24)).alloc (.cells #[.int .i64 q.day, .int .i64 q.id, lu] 24)) (.slice (some ⟨W.heap.size, 0, none⟩) 1 1) [p] ∧
    PostsAt ((W.alloc (.cells #[.int .i64 p.day, .int .i64 p.id, lv] 24)).alloc (.cells #[.int .i64 q.day, .int .i64 q.id, lu] 24)) (.slice (some ⟨W.heap.size + 1, 0, none⟩) 1 1) [q] ∧
    Below W.heap.size W ((W.alloc (.cells #[.int .i64 p.day, .int .i64 p.id, lv] 24)).alloc (.cells #[.int .i64 q.day, .int .i64 q.id, lu] 24)) := by
  have hB : Below W.heap.size W ((W.alloc (.cells #[.int .i64 p.day, .int .i64 p.id, lv] 24)).alloc (.cells #[.int .i64 q.day, .int .i64 q.id, lu] 24)) := ((Below.refl _ _).alloc (Nat.le_refl _) _).alloc (by simp) _
  have h1 := heap_alloc_new W (.cells #[.int .i64 p.day, .int .i64 p.id, lv] 24)
  have h2 := heap_alloc_new (W.alloc (.cells #[.int .i64 p.day, .int .i64 p.id, lv] 24)) (.cells #[.int .i64 q.day, .int .i64 q.id, lu] 24)
  rw [World.size_alloc] at h2
  exact ⟨one_posts (by rw [Below.heap_alloc _ _ _ (by simp)]; exact h1) (hl.below hB) hd hi, one_posts h2 (hu.below hB) gd gi, hB⟩
theorem kept_below {B : Nat} {w W W' : World} (h : Below B w W) (k : Kept W W') : Below B w W' := by
  obtain ⟨n, rfl⟩ := k
  exact Below.drewn h n
set_option maxHeartbeats 4000000 in
theorem law_bytes (p : Post) (lv : Value) (v1 : Value) (l : List UInt8) (w : World) (hl : LegsAt w lv p.legs) (hd : -9223372036854775808 ≤ p.day ∧ p.day ≤ 9223372036854775807) (hi : -9223372036854775808 ≤ p.id ∧ p.id ≤ 9223372036854775807)
    (hb : Reads w v1 (nums l)) (hlen : l.length ≤ 140737488355300) : Calls Tryd.prog 3 #[.agg #[.int .i64 p.day, .int .i64 p.id, lv], v1] w (True1 w) := by
  obtain ⟨eb, ec, he⟩ : ∃ eb ec, encOf p = (eb, ec) := ⟨_, _, rfl⟩
  obtain ⟨day2, id2, L2, dc, hde⟩ : ∃ d i L c, decOf l = (⟨d, i, L⟩, c) := ⟨_, _, _, _, rfl⟩
  have HE1 := hid' (fun W (B : Below w.heap.size w W) => (encode_any p lv W (hl.below B) hd hi).mono (R' := EncAs eb ec W) (fun e w' h => encAs he h))
  have HE2 := hid' (fun W (B : Below w.heap.size w W) => (refEncode_any p lv W (hl.below B) hd hi).mono (R' := EncAs eb ec W) (fun e w' h => encAs he h))
  have HD1 := hid' (fun W (B : Below w.heap.size w W) => (decode_any v1 l W (hb.below B) hlen).mono (R' := DecAs day2 id2 L2 dc W) (fun e w' h => decAs hde h))
  have HD2 := hid' (fun W (B : Below w.heap.size w W) => (refDecode_any v1 l W (hb.below B) hlen).mono (R' := DecAs day2 id2 L2 dc W) (fun e w' h => decAs hde h))
  have HIN := hid' (decOf_in l)
  rw [hde] at HIN
  clear he hde
  obtain ⟨lp, lc, rfl, _⟩ := LegsAt.row hl
  obtain ⟨vp, vc, rfl⟩ := hb.len
  have hk : ∀ o, (w.alloc (.cells #[.int .i64 p.day, .int .i64 p.id, .slice lp p.legs.length lc] 24)).cell? ⟨w.heap.size, o, none⟩ = (#[.int .i64 p.day, .int .i64 p.id, .slice lp p.legs.length lc] : Array Value)[o]? := fun o => World.cell?_alloc_new _ _ _ _
  have HK := hid' (And.intro (show (w.alloc (.cells #[.int .i64 p.day, .int .i64 p.id, .slice lp p.legs.length lc] 24)).cell? ⟨w.heap.size, 0, none⟩ = some (.int .i64 p.day) from hk 0) (And.intro (show (w.alloc (.cells #[.int .i64 p.day, .int .i64 p.id, .slice lp p.legs.length lc] 24)).cell? ⟨w.heap.size, 1, none⟩ = some (.int .i64 p.id) from hk 1) (show (w.alloc (.cells #[.int .i64 p.day, .int .i64 p.id, .slice lp p.legs.length lc] 24)).cell? ⟨w.heap.size, 2, none⟩ = some (.slice lp p.legs.length lc) from hk 2)))
  have HB0 := hid' (show Below w.heap.size w (w.alloc (.cells #[.int .i64 p.day, .int .i64 p.id, .slice lp p.legs.length lc] 24)) from (Below.refl _ _).alloc (Nat.le_refl _) _)
  clear hl hb hlen hk
  go_enter Tryd.func3, Tryd.ntmps3
  go_wp2_with fail
  refine (shown_any _).mono ?_
  rintro e w1 ⟨rfl, b1⟩
  have HB1 := hid' (Below.more HB0.out b1)
  have k0 := keep_all b1 _ _ HK.out.1
  have k1 := keep_all b1 _ _ HK.out.2.1
  have k2 := keep_all b1 _ _ HK.out.2.2
  clear b1 HK HB0
  go_wp2_with fail
  refine (HE1.out _ HB1.out).mono ?_
  rintro e w2 ⟨vx, rfl, ox, b2⟩
  have k0 := keep_all b2 _ _ k0
  have k1 := keep_all b2 _ _ k1
  have k2 := keep_all b2 _ _ k2
  have HB2 := hid' (Below.more HB1.out b2)
  have OX := hid' ox.reads
  clear ox b2
  go_wp2_with fail
  refine (HE2.out _ HB2.out).mono ?_
  rintro e w3 ⟨vy, rfl, oy, b3⟩
  have HB3 := hid' (Below.more HB2.out b3)
  have OX3 := hid' (OX.out.below b3)
  have OY3 := hid' oy.reads
  clear oy b3 OX k0 k1 k2
  go_wp2_with fail
  refine (HD1.out _ HB3.out).mono ?_
  rintro e w4 ⟨lq, rfl, lq4, b4⟩
  have HB4 := hid' (Below.more HB3.out b4)
  have OX4 := hid' (OX3.out.below b4)
  have OY4 := hid' (OY3.out.below b4)
  have LQ4 := hid' lq4
  obtain ⟨qp, qc, rfl, _⟩ := LegsAt.row lq4
  clear lq4 b4 OX3 OY3
  go_wp2_with fail
  have b4 : Below w4.heap.size w4 (w4.alloc (.cells #[.int .i64 day2, .int .i64 id2, .slice qp L2.length qc] 24)) := (Below.refl _ _).alloc (Nat.le_refl _) _
  refine (HD2.out _ (Below.more HB4.out b4)).mono ?_
  rintro e w5 ⟨ls, rfl, ls5, b5⟩
  have b45 := Below.more b4 b5
  have kq := (b5.block _ (by simp)).trans (heap_alloc_new w4 (.cells #[.int .i64 day2, .int .i64 id2, .slice qp L2.length qc] 24))
  have HB5 := hid' (Below.more HB4.out b45)
  have OX5 := hid' (OX4.out.below b45)
  have OY5 := hid' (OY4.out.below b45)
  have LQ5 := hid' (LQ4.out.below b45)
  have LS5 := hid' ls5
  obtain ⟨sp, sc, rfl, _⟩ := LegsAt.row ls5
  have HKQ := hid' kq
  obtain ⟨gq, hgq⟩ : ∃ g, g = w4.heap.size := ⟨_, rfl⟩
  rw [← hgq] at HKQ
  clear ls5 b4 b5 b45 kq OX4 OY4 LQ4
  go_upto_region 6 with (fail)
  rw [← hgq]
  have b6 : Below w5.heap.size w5 (w5.alloc (.cells #[.int .i64 day2, .int .i64 id2, .slice sp L2.length sc] 24)) := (Below.refl _ _).alloc (Nat.le_refl _) _
  have ks := heap_alloc_new w5 (.cells #[.int .i64 day2, .int .i64 id2, .slice sp L2.length sc] 24)
  have HB6 := hid' (Below.more HB5.out b6)
  have cx := (OX5.out.below b6).conv
  have cy := (OY5.out.below b6).conv
  have LQ6 := hid' (LQ5.out.below b6)
  have LS6 := hid' (LS5.out.below b6)
  have kq6 := (b6.block _ (lt_of_block HKQ.out)).trans HKQ.out
  obtain ⟨gs, hgs⟩ : ∃ g, g = w5.heap.size := ⟨_, rfl⟩
  rw [← hgs] at ks
  have HKS := hid' ks
  have HKQ6 := hid' kq6
  rw [← hgs]
  generalize w5.alloc (.cells #[.int .i64 day2, .int .i64 id2, .slice sp L2.length sc] 24) = W6 at *
  clear hgq hgs b6 OX5 OY5 LQ5 LS5 HKQ
  obtain ⟨q0, q1, q2, _⟩ := cells_of3 kq6
  obtain ⟨s0, s1, s2, _⟩ := cells_of3 ks
  have s0' := fun o => alloc_cell s0 o
  have s1' := fun o => alloc_cell s1 o
  have s2' := fun o => alloc_cell s2 o
  clear ks kq6
  go_wp2_with fail
  obtain ⟨r1, r2, r3⟩ := two_boxes W6 ⟨day2, id2, L2⟩ ⟨day2, id2, L2⟩ (.slice qp L2.length qc) (.slice sp L2.length sc) LQ6.out LS6.out HIN.out.1 HIN.out.2 HIN.out.1 HIN.out.2
  refine (samePosts_yes _ _ _ _ r1 r2).mono ?_
  rintro e w9 ⟨rfl, k9⟩
  have HB9 := hid' (kept_below (Below.more HB6.out r3) k9)
  clear r1 r2 r3 k9
  go_wp2_with fail
  go_ret
  exact ⟨rfl, HB9.out⟩
theorem enc_short {p : Post} (h : right p = true) : (enc p).length ≤ 10000 := by
  obtain ⟨h1, h2, _, _⟩ := right_parts h
  obtain ⟨d1, d2, i1, i2, n1, n2⟩ := head_parts h1
  have hf : ∀ x ∈ p.legs, Fits x := fun x hx => legOk_fits (List.all_eq_true.1 h2 x hx)
  have h3 := hb_len p 3 (by omega) (by omega) n2 (by omega)
  have h4 := encLegs_len p.legs hf
  rw [enc_is, List.length_append]
  omega
set_option maxHeartbeats 4000000 in
theorem law_back (p : Post) (lv : Value) (v1 : Value) (l : List UInt8) (w : World) (hl : LegsAt w lv p.legs) (hd : -9223372036854775808 ≤ p.day ∧ p.day ≤ 9223372036854775807) (hi : -9223372036854775808 ≤ p.id ∧ p.id ≤ 9223372036854775807)
    (hb : Reads w v1 (nums l)) (hlen : l.length ≤ 140737488355300) : Calls Tryd.prog 4 #[.agg #[.int .i64 p.day, .int .i64 p.id, lv], v1] w (True1 w) := by
  have HE1 := hid' (fun W (B : Below w.heap.size w W) => encode_any p lv W (hl.below B) hd hi)
  have HDL := hid' (fun W (B : Below w.heap.size w W) => (decode_any v1 l W (hb.below B) hlen).mono (R' := DecAs (decOf l).1.day (decOf l).1.id (decOf l).1.legs (decOf l).2 W) (fun e w' h => h))
  have HBR := hid' (fun W (B : Below w.heap.size w W) => hb.below B)
  have HLL := hid' (fun W (B : Below w.heap.size w W) => hl.below B)
  obtain ⟨lp, lc, rfl, _⟩ := LegsAt.row hl
  obtain ⟨vp, vc, rfl⟩ := hb.len
  have hk : ∀ o, (w.alloc (.cells #[.int .i64 p.day, .int .i64 p.id, .slice lp p.legs.length lc] 24)).cell? ⟨w.heap.size, o, none⟩ = (#[.int .i64 p.day, .int .i64 p.id, .slice lp p.legs.length lc] : Array Value)[o]? := fun o => World.cell?_alloc_new _ _ _ _
  have HK := hid' (And.intro (show (w.alloc (.cells #[.int .i64 p.day, .int .i64 p.id, .slice lp p.legs.length lc] 24)).cell? ⟨w.heap.size, 0, none⟩ = some (.int .i64 p.day) from hk 0) (And.intro (show (w.alloc (.cells #[.int .i64 p.day, .int .i64 p.id, .slice lp p.legs.length lc] 24)).cell? ⟨w.heap.size, 1, none⟩ = some (.int .i64 p.id) from hk 1) (show (w.alloc (.cells #[.int .i64 p.day, .int .i64 p.id, .slice lp p.legs.length lc] 24)).cell? ⟨w.heap.size, 2, none⟩ = some (.slice lp p.legs.length lc) from hk 2)))
  have HB0 := hid' (show Below w.heap.size w (w.alloc (.cells #[.int .i64 p.day, .int .i64 p.id, .slice lp p.legs.length lc] 24)) from (Below.refl _ _).alloc (Nat.le_refl _) _)
  clear hl hb hlen hk
  cases hr : right p with
  | false =>
    have HE := hid' (fun W B => (HE1.out W B).mono (R' := EncAs [] 200 W) (fun e w' h => encAs (encOf_no hr) h))
    clear hr HE1 HLL
    go_enter Tryd.func4, Tryd.ntmps4
    go_wp2_with fail
    refine (shown_any _).mono ?_
    rintro e w1 ⟨rfl, b1⟩
    have HB1 := hid' (Below.more HB0.out b1)
    have k0 := keep_all b1 _ _ HK.out.1
    have k1 := keep_all b1 _ _ HK.out.2.1
    have k2 := keep_all b1 _ _ HK.out.2.2
    clear b1 HK HB0
    go_wp2_with fail
    refine (HE.out _ HB1.out).mono ?_
    rintro e w2 ⟨vx, rfl, ox, b2⟩
    have HB2 := hid' (Below.more HB1.out b2)
    have OX := hid' ox.reads
    clear ox b2 k0 k1 k2
    go_wp2_with fail
    refine (decode_any vx [] w2 OX.out (by simp)).mono ?_
    rintro e w3 ⟨lq, rfl, lq3, b3⟩
    obtain ⟨qp, qc, rfl, _⟩ := LegsAt.row lq3
    have HB4 := hid' ((Below.more HB2.out b3).trans ((Below.refl _ _).alloc (Below.more HB2.out b3).size (.cells #[.int .i64 (decOf []).1.day, .int .i64 (decOf []).1.id, .slice qp (decOf []).1.legs.length qc] 24)))
    clear lq3 b3 OX
    skip
    skip
    go_wp2_with fail
    refine (HDL.out _ HB4.out).mono ?_
    rintro e w5 ⟨ls, rfl, ls5, b5⟩
    obtain ⟨sp, sc, rfl, _⟩ := LegsAt.row ls5
    have HB5 := hid' (Below.more HB4.out b5)
    have LS5 := hid' ls5
    clear ls5 b5
    cases hdl : dec l with
    | none =>
      have e1 : (decOf l).2 = 200 := by unfold decOf; rw [hdl]
      rw [e1]
      clear e1 hdl
      go_wp2_with fail
      go_ret
      exact ⟨rfl, HB5.out.trans ((Below.refl _ _).alloc HB5.out.size _)⟩
    | some sq =>
      obtain ⟨en, rs⟩ := enc_dec hdl
      have e1 : decOf l = (sq, 0) := by unfold decOf; rw [hdl]
      have HIN := decOf_in l
      rw [e1] at LS5 HIN ⊢
      obtain ⟨day3, id3, L3⟩ := sq
      dsimp only at *
      have HEN := hid' (fun W (B : Below w5.heap.size w5 W) => (encode_any ⟨day3, id3, L3⟩ (.slice sp L3.length sc) W (LS5.out.below B) HIN.1 HIN.2).mono (R' := EncAs l 0 W) (fun e w' h => encAs (by rw [encOf_yes rs, en]) h))
      clear e1 HIN en rs hdl LS5
      have b6 : Below w5.heap.size w5 (w5.alloc (.cells #[.int .i64 day3, .int .i64 id3, .slice sp L3.length sc] 24)) := (Below.refl _ _).alloc (Nat.le_refl _) _
      have HB6 := hid' (Below.more HB5.out b6)
      have HE6 := hid' (HEN.out _ b6)
      clear b6 HEN
      go_wp2_with fail
      refine HE6.out.mono ?_
      rintro e w7 ⟨vy, rfl, oy, b7⟩
      have cy := oy.conv
      have cb := (HBR.out _ (Below.more HB6.out b7)).conv
      have HB7 := hid' (Below.more HB6.out b7)
      clear oy b7
      go_wp2_with fail
      go_ret
      exact ⟨rfl, HB7.out⟩
  | true =>
    have HE := hid' (fun W B => (HE1.out W B).mono (R' := EncAs (enc p) 0 W) (fun e w' h => encAs (encOf_yes hr) h))
    have HDE := hid' (show decOf (enc p) = (p, 0) by unfold decOf; rw [dec_enc p hr])
    have HLE := hid' (enc_short hr)
    clear hr HE1
    go_enter Tryd.func4, Tryd.ntmps4
    go_wp2_with fail
    refine (shown_any _).mono ?_
    rintro e w1 ⟨rfl, b1⟩
    have HB1 := hid' (Below.more HB0.out b1)
    have k0 := keep_all b1 _ _ HK.out.1
    have k1 := keep_all b1 _ _ HK.out.2.1
    have k2 := keep_all b1 _ _ HK.out.2.2
    clear b1 HK HB0
    go_wp2_with fail
    refine (HE.out _ HB1.out).mono ?_
    rintro e w2 ⟨vx, rfl, ox, b2⟩
    have k0 := keep_all b2 _ _ k0
    have k1 := keep_all b2 _ _ k1
    have k2 := keep_all b2 _ _ k2
    have HB2 := hid' (Below.more HB1.out b2)
    have OX := hid' ox.reads
    clear ox b2
    go_wp2_with fail
    refine (decode_any vx (enc p) w2 OX.out (by have := HLE.out; omega)).mono ?_
    rintro e w3 ⟨lq, rfl, lq3, b3⟩
    have k0 := keep_all b3 _ _ k0
    have k1 := keep_all b3 _ _ k1
    have k2 := keep_all b3 _ _ k2
    rw [HDE.out] at lq3 ⊢
    obtain ⟨qp, qc, rfl, _⟩ := LegsAt.row lq3
    have HB3 := hid' (Below.more HB2.out b3)
    have LQ3 := hid' lq3
    clear lq3 b3 OX
    dsimp only at LQ3 ⊢
    go_upto_region 4 with (fail)
    have b4 : Below w3.heap.size w3 (w3.alloc (.cells #[.int .i64 p.day, .int .i64 p.id, .slice qp p.legs.length qc] 24)) := (Below.refl _ _).alloc (Nat.le_refl _) _
    have k0 := alloc_cell k0 (.cells #[.int .i64 p.day, .int .i64 p.id, .slice qp p.legs.length qc] 24)
    have k1 := alloc_cell k1 (.cells #[.int .i64 p.day, .int .i64 p.id, .slice qp p.legs.length qc] 24)
    have k2 := alloc_cell k2 (.cells #[.int .i64 p.day, .int .i64 p.id, .slice qp p.legs.length qc] 24)
    have kq := heap_alloc_new w3 (.cells #[.int .i64 p.day, .int .i64 p.id, .slice qp p.legs.length qc] 24)
    have HB4 := hid' (Below.more HB3.out b4)
    have LQ4 := hid' (LQ3.out.below b4)
    obtain ⟨gq, hgq⟩ : ∃ g, g = w3.heap.size := ⟨_, rfl⟩
    rw [← hgq] at kq ⊢
    generalize w3.alloc (.cells #[.int .i64 p.day, .int .i64 p.id, .slice qp p.legs.length qc] 24) = W4 at *
    clear hgq b4 LQ3
    obtain ⟨q0, q1, q2, _⟩ := cells_of3 kq
    have q0' := fun o => alloc_cell q0 o
    have q1' := fun o => alloc_cell q1 o
    have q2' := fun o => alloc_cell q2 o
    clear kq
    go_wp2_with fail
    obtain ⟨r1, r2, r3⟩ := two_boxes W4 p p (.slice lp p.legs.length lc) (.slice qp p.legs.length qc) (HLL.out _ HB4.out) LQ4.out hd hi hd hi
    refine (samePosts_yes _ _ _ _ r1 r2).mono ?_
    rintro e w9 ⟨rfl, k9⟩
    have HB4 := hid' (kept_below (Below.more HB4.out r3) k9)
    clear r1 r2 r3 k9 k0 k1 k2 q0 q1 q2 q0' q1' q2'
    go_wp2_with fail
    refine (HDL.out _ HB4.out).mono ?_
    rintro e w5 ⟨ls, rfl, ls5, b5⟩
    obtain ⟨sp, sc, rfl, _⟩ := LegsAt.row ls5
    have HB5 := hid' (Below.more HB4.out b5)
    have LS5 := hid' ls5
    clear ls5 b5
    cases hdl : dec l with
    | none =>
      have e1 : (decOf l).2 = 200 := by unfold decOf; rw [hdl]
      rw [e1]
      clear e1 hdl
      go_wp2_with fail
      go_ret
      exact ⟨rfl, HB5.out.trans ((Below.refl _ _).alloc HB5.out.size _)⟩
    | some sq =>
      obtain ⟨en, rs⟩ := enc_dec hdl
      have e1 : decOf l = (sq, 0) := by unfold decOf; rw [hdl]
      have HIN := decOf_in l
      rw [e1] at LS5 HIN ⊢
      obtain ⟨day3, id3, L3⟩ := sq
      dsimp only at *
      have HEN := hid' (fun W (B : Below w5.heap.size w5 W) => (encode_any ⟨day3, id3, L3⟩ (.slice sp L3.length sc) W (LS5.out.below B) HIN.1 HIN.2).mono (R' := EncAs l 0 W) (fun e w' h => encAs (by rw [encOf_yes rs, en]) h))
      clear e1 HIN en rs hdl LS5
      have b6 : Below w5.heap.size w5 (w5.alloc (.cells #[.int .i64 day3, .int .i64 id3, .slice sp L3.length sc] 24)) := (Below.refl _ _).alloc (Nat.le_refl _) _
      have HB6 := hid' (Below.more HB5.out b6)
      have HE6 := hid' (HEN.out _ b6)
      clear b6 HEN
      go_wp2_with fail
      refine HE6.out.mono ?_
      rintro e w7 ⟨vy, rfl, oy, b7⟩
      have cy := oy.conv
      have cb := (HBR.out _ (Below.more HB6.out b7)).conv
      have HB7 := hid' (Below.more HB6.out b7)
      clear oy b7
      go_wp2_with fail
      go_ret
      exact ⟨rfl, HB7.out⟩
end Go.Proofs.YtmmbhmlhenpgbaaDoor
