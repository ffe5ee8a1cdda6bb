/- Proved: lemmas and contracts of the functions that the law reaches, part 24 of 27: DnFeed, DnVal, DnAcq. Conditions: as each states. -/
import Derived.Test.YtcpobnknmegkmaaDoorDnm6
import Derived.Test.YtcpobnknmegkmaaDoorDnm8
import Derived.Test.YtcpobnknmegkmaaDoorDnm13
import Derived.Test.YtcpobnknmegkmaaDoorDnm23
namespace Go.Proofs.YtcpobnknmegkmaaDoor
open Go.RowKit
open Rw
set_option linter.unusedVariables false
set_option linter.unusedSimpArgs false
set_option maxRecDepth 100000
namespace Fd
theorem lower_ex {l : List (Int × Int)} (h : Rise l) (d : Int) : ∀ n, n ≤ l.length → ∃ i, i ≤ n ∧ (∀ k, k < i → decide ((stampAt l k).1 < d) = true) ∧ ∀ k, i ≤ k → k < n → decide ((stampAt l k).1 < d) = false
  | 0, _ => ⟨0, Nat.le_refl _, fun k hk => by omega, fun k _ hk => by omega⟩
  | n + 1, hn => by
    cases hp : decide ((stampAt l n).1 < d) with
    | true => exact ⟨n + 1, Nat.le_refl _, fun k hk => by
        by_cases e : k = n
        · subst e; exact hp
        · exact day_before h rfl hp (by omega) (by omega), fun k h1 h2 => by omega⟩
    | false =>
      obtain ⟨i, h0, h1, h2⟩ := lower_ex h d n (by omega)
      refine ⟨i, by omega, h1, fun k h3 h4 => ?_⟩
      by_cases e : k = n
      · subst e; exact hp
      · exact h2 k h3 (by omega)
theorem lower_split {l : List (Int × Int)} (h : Rise l) (d : Int) : lower l d ≤ l.length ∧ (∀ k, k < lower l d → (stampAt l k).1 < d) ∧ ∀ k, lower l d ≤ k → k < l.length → d ≤ (stampAt l k).1 := by
  obtain ⟨i, h0, h1, h2⟩ := lower_ex h d l.length (Nat.le_refl _)
  have e : lower l d = i := countP_here _ i _ h0 h1 h2
  rw [e]
  refine ⟨h0, fun k hk => of_decide_eq_true (h1 k hk), fun k h3 h4 => ?_⟩
  have := of_decide_eq_false (h2 k h3 h4)
  omega
theorem upto_here {l : List (Int × Int)} (h : Rise l) (d : Int) : upto l d = if foundI l (lower l d) d = true then lower l d + 1 else lower l d := by
  obtain ⟨h0, h1, h2⟩ := lower_split h d
  generalize lower l d = i at *
  unfold upto foundI
  by_cases hi : i < l.length
  · rw [stampAt_some hi]
    have hd := h2 i (Nat.le_refl _) hi
    by_cases e : (stampAt l i).1 = d
    · have hc : (cmpI (stampAt l i).1 d == 0) = true := by rw [e]; unfold cmpI; simp
      show _ = if (cmpI (stampAt l i).1 d == 0) = true then _ else _
      rw [if_pos hc]
      refine countP_here _ _ _ hi (fun k hk => ?_) (fun k h3 h4 => ?_)
      · rw [Bool.not_eq_true', decide_eq_false_iff_not]
        by_cases e2 : k = i
        · subst e2; omega
        · have := h1 k (by omega); omega
      · rw [Bool.not_eq_false', decide_eq_true_eq]
        have := h.2 k i (by omega) h4
        omega
    · have hc : ¬ (cmpI (stampAt l i).1 d == 0) = true := by unfold cmpI; rw [if_neg (by omega), if_pos (by omega)]; decide
      show _ = if (cmpI (stampAt l i).1 d == 0) = true then _ else _
      rw [if_neg hc]
      refine countP_here _ _ _ h0 (fun k hk => ?_) (fun k h3 h4 => ?_)
      · rw [Bool.not_eq_true', decide_eq_false_iff_not]
        have := h1 k hk; omega
      · rw [Bool.not_eq_false', decide_eq_true_eq]
        by_cases e2 : k = i
        · subst e2; omega
        · have := h.2 k i (by omega) h4; omega
  · obtain rfl : i = l.length := by omega
    rw [List.getElem?_eq_none (Nat.le_refl _), if_neg (by exact Bool.false_ne_true)]
    refine countP_here _ _ _ h0 (fun k hk => ?_) (fun k h3 h4 => by omega)
    rw [Bool.not_eq_true', decide_eq_false_iff_not]
    have := h1 k hk; omega
theorem found_name {F : List Feed} {s : ByteArray} {f : Feed} (h : F[place F s]? = some f) : foundS F (place F s) s = true ↔ f.1 = s := by
  unfold foundS
  rw [h]
  show (cmpS f.1 s == 0) = true ↔ _
  rw [beq_iff_eq]
  unfold cmpS
  constructor
  · intro e
    cases h1 : lt f.1 s with
    | true => rw [h1] at e; simp at e
    | false =>
      cases h2 : lt s f.1 with
      | true => rw [h1, h2] at e; simp at e
      | false =>
        have := less_eq h1 h2
        rw [ByteArray.toList_eq, ByteArray.toList_eq] at this
        exact ba_ext this
  · rintro rfl
    rw [lt_irrefl]
    rfl
theorem rise_of {F : List Feed} (h : Ok F) {i : Nat} {f : Feed} (hi : F[i]? = some f) : Rise f.2 := ⟨(h.2 i f hi).len, risesK h hi⟩
theorem tells_not {F : List Feed} {s : ByteArray} (h : foundS F (place F s) s = false) (day ago : Int) : tells F day s ago = none := by
  cases hp : F[place F s]? with
  | none => exact tells_none hp day ago
  | some f =>
    refine tells_other hp (fun e => ?_) day ago
    rw [(found_name hp).2 e] at h
    cases h
theorem tells_on {F : List Feed} (hok : Ok F) {s : ByteArray} {f : Feed} (hp : F[place F s]? = some f) (h : foundS F (place F s) s = true) {day ago : Int} (hf : foundI f.2 (lower f.2 (day - ago)) (day - ago) = true) :
    tells F day s ago = some (stampAt f.2 (lower f.2 (day - ago))).2 :=
  tells_some hp ((found_name hp).1 h) (by rw [upto_here (rise_of hok hp), if_pos hf])
theorem tells_zero {F : List Feed} (hok : Ok F) {s : ByteArray} {f : Feed} (hp : F[place F s]? = some f) (h : foundS F (place F s) s = true) {day ago : Int} (hf : foundI f.2 (lower f.2 (day - ago)) (day - ago) = false) (hl : lower f.2 (day - ago) = 0) :
    tells F day s ago = none :=
  tells_early hp ((found_name hp).1 h) (by rw [upto_here (rise_of hok hp), if_neg (by rw [hf]; decide), hl])
theorem tells_off {F : List Feed} (hok : Ok F) {s : ByteArray} {f : Feed} (hp : F[place F s]? = some f) (h : foundS F (place F s) s = true) {day ago : Int} (hf : foundI f.2 (lower f.2 (day - ago)) (day - ago) = false) {k : Nat} (hl : lower f.2 (day - ago) = k + 1) :
    tells F day s ago = some (stampAt f.2 k).2 :=
  tells_some hp ((found_name hp).1 h) (by rw [upto_here (rise_of hok hp), if_neg (by rw [hf]; decide), hl])
end Fd
def optOut (o : Option Int) : Value := match o with | some n => .tuple #[.int .i64 n, .bool true] | none => .tuple #[.int .i64 0, .bool false]
set_option maxHeartbeats 4000000 in
theorem dfeed_any (F : List Fd.Feed) (hok : Fd.Ok F) (day ago : Int) (name : ByteArray) (hd : 0 ≤ day ∧ day ≤ 73048) (ha : -3660 ≤ ago ∧ ago ≤ 3660) (vf : Value) (w : World) (hF : FeedsAt w vf F) :
    Calls Tryd.prog 40 #[.agg #[.int .i64 day, vf], .string name, .int .i64 ago] w (Gives (optOut (Fd.tells F day name ago)) w) := by
  have HF := hid' hF
  have HOK := hid' hok
  obtain ⟨vp, vc, rfl, hvl, -⟩ := hF
  have hFl : F.length ≤ 64 := hok.1
  have hdw : IntKind.i64.wrap (day - ago) = day - ago := IntWalk.i64_in _ (by omega)
  have haw : IntKind.i64.wrap ago = ago := IntWalk.i64_in _ (by omega)
  have HB := hid' ((Below.refl w.heap.size w).alloc (Nat.le_refl _) (.cells #[.int .i64 day, .slice vp F.length vc] 51))
  have HC := hid' (heap_alloc_new w (.cells #[.int .i64 day, .slice vp F.length vc] 51))
  have HBS := hid' (fun W (b : Below w.heap.size w W) => bsFeeds_any F hok name _ W (HF.out.below b))
  obtain ⟨fnd, hfnd⟩ : ∃ fnd, Hid (foundS F (Fd.place F name) name = fnd) := ⟨_, hid' rfl⟩
  obtain ⟨i, hi⟩ : ∃ i, Hid (Fd.place F name = i) := ⟨_, hid' rfl⟩
  obtain ⟨O, hO⟩ : ∃ O, Hid (Fd.tells F day name ago = O) := ⟨_, hid' rfl⟩
  rw [hO.out]
  rw [hfnd.out, hi.out] at HBS
  clear hok hd ha hvl
  go_enter Tryd.func40, Tryd.ntmps40
  go_upto_region 1 with (fail)
  generalize World.alloc _ _ = w1 at *
  have c0 := bcells HC.out 0 _ rfl
  have c1 := bcells HC.out 1 _ rfl
  go_upto_region 2 with (first | (go_at_call 51; refine (HBS.out _ HB.out).mono ?_; rintro e w2 ⟨rfl, b2⟩))
  have HB2 := hid' (HB.out.trans (b2.mono HB.out.size))
  have HC2 := hid' (box_below b2 HC.out)
  clear b2 c0 c1
  cases fnd with
  | false =>
    have e := hid' (show O = none by rw [← hO.out]; exact Fd.tells_not hfnd.out day ago)
    go_wp2_with fail
    go_ret2
    exact ⟨by rw [e.out]; rfl, HB2.out⟩
  | true =>
    have hlt : i < F.length := by
      rw [← hi.out]
      have h := hfnd.out
      unfold foundS at h
      split at h
      · cases h
      · rename_i f hf; exact (List.getElem?_eq_some_iff.1 hf).1
    obtain ⟨x, hx⟩ : ∃ x, F[i]? = some x := ⟨_, List.getElem?_eq_getElem hlt⟩
    have HX := hid' (show F[Fd.place F name]? = some x by rw [hi.out]; exact hx)
    have HR := hid' (Fd.rise_of HOK.out hx)
    obtain ⟨p', c', e', -, hfc⟩ := HF.out.below HB2.out
    obtain ⟨fb, fo, sv, e2, hfb, ⟨x0, x1⟩, hst, -⟩ := hfc i x hx
    cases e'
    subst e2
    have HST := hid' hst
    obtain ⟨sp, sc, rfl, hsl, -⟩ := hst
    have hlen := HR.out.1
    have j1 : (0 : Int) ≤ (i : Int) := by omega
    have j2 : (i : Int) < (F.length : Int) := by omega
    have c0 := bcells HC2.out 0 _ rfl
    have c1 := bcells HC2.out 1 _ rfl
    have HBT := hid' (fun W (b : Below w2.heap.size w2 W) => bsStamps_any x.2 HR.out (day - ago) _ W (HST.out.below b))
    obtain ⟨fn2, hf2⟩ : ∃ fnd, Hid (foundI x.2 (Fd.lower x.2 (day - ago)) (day - ago) = fnd) := ⟨_, hid' rfl⟩
    obtain ⟨L, hL⟩ : ∃ i, Hid (Fd.lower x.2 (day - ago) = i) := ⟨_, hid' rfl⟩
    rw [hf2.out, hL.out] at HBT
    have HLE := hid' (show L ≤ x.2.length by rw [← hL.out]; exact (Fd.lower_split HR.out _).1)
    clear hfc hx x0 hsl hfb hlt
    go_upto_region 6 with (first | (go_at_call 54; refine (HBT.out _ (Below.refl _ _)).mono ?_; rintro e w3 ⟨rfl, b3⟩))
    have HB3 := hid' (HB2.out.trans (b3.mono HB2.out.size))
    have HS3 := hid' (HST.out.below b3)
    clear b3 c0 c1 x1
    obtain ⟨p', c', e', -, hsc⟩ := HS3.out
    cases e'
    have HSC := hid' hsc
    clear hsc
    cases fn2 with
    | true =>
      have hlt : L < x.2.length := by
        rw [← hL.out]
        have h := hf2.out
        unfold foundI at h
        split at h
        · cases h
        · rename_i f hf; exact (List.getElem?_eq_some_iff.1 hf).1
      have e := hid' (show O = some (Fd.stampAt x.2 L).2 by rw [← hO.out, ← hL.out]; exact Fd.tells_on HOK.out HX.out hfnd.out hf2.out)
      obtain ⟨b, off, rfl, -, ⟨y0, y1⟩, -, -⟩ := HSC.out L _ (Fd.stampAt_some hlt)
      have k1 : (0 : Int) ≤ (L : Int) := by omega
      have k2 : (L : Int) < (x.2.length : Int) := by omega
      clear y0 hlt
      go_wp2_with fail
      go_ret2
      exact ⟨by rw [e.out]; rfl, HB3.out⟩
    | false =>
      match L, hL, HLE with
      | 0, hL, HLE =>
        have e := hid' (show O = none by rw [← hO.out]; exact Fd.tells_zero HOK.out HX.out hfnd.out hf2.out hL.out)
        go_wp2_with fail
        go_ret2
        exact ⟨by rw [e.out]; rfl, HB3.out⟩
      | k + 1, hL, HLE =>
        have hlt : k < x.2.length := HLE.out
        have e := hid' (show O = some (Fd.stampAt x.2 k).2 by rw [← hO.out]; exact Fd.tells_off HOK.out HX.out hfnd.out hf2.out hL.out)
        obtain ⟨b, off, rfl, -, ⟨y0, y1⟩, -, -⟩ := HSC.out k _ (Fd.stampAt_some hlt)
        have g0 : (((k + 1 : Nat) : Int) == 0) = false := by rw [beq_eq_false_iff_ne]; omega
        have v1 : IntKind.i64.wrap (((k + 1 : Nat) : Int) - 1) = (k : Int) := by rw [IntWalk.i64_in _ (by omega)]; omega
        have k1 : (0 : Int) ≤ (k : Int) := by omega
        have k2 : (k : Int) < (x.2.length : Int) := by omega
        clear y0 hlt
        go_wp2_with fail
        go_ret2
        exact ⟨by rw [e.out]; rfl, HB3.out⟩
end Go.Proofs.YtcpobnknmegkmaaDoor
namespace Go.Proofs.YtcpobnknmegkmaaDoor
open Go.RowKit
open Rw
set_option linter.unusedVariables false
set_option linter.unusedSimpArgs false
set_option maxRecDepth 100000
theorem optOut_none : optOut none = .tuple #[.int .i64 0, .bool false] := rfl
theorem optOut_some (n : Int) : optOut (some n) = .tuple #[.int .i64 n, .bool true] := rfl
/-- A kid's row stays readable. -/
def RowC (W : World) (b o : Nat) (x y z u : Value) : Prop := W.cell? ⟨b, o, none⟩ = some x ∧ W.cell? ⟨b, o + 1, none⟩ = some y ∧ W.cell? ⟨b, o + 2, none⟩ = some z ∧ W.cell? ⟨b, o + 3, none⟩ = some u
theorem row_cells {ok : Nat → Prop} {W : World} {p : Option Addr} {i : Nat} {v : Value} (h : RowIn ok W p i v) : ∃ b off x y z u, p = some ⟨b, off, none⟩ ∧ v = .agg #[x, y, z, u] ∧ ∀ W', Below W.heap.size W W' → RowC W' b (off + i * 4) x y z u := by
  obtain ⟨b, off, x, y, z, u, e, -, hv, h0, h1, h2, h3⟩ := h
  exact ⟨b, off, x, y, z, u, e, hv, fun W' hb => ⟨keep_all hb _ _ h0, keep_all hb _ _ h1, keep_all hb _ _ h2, keep_all hb _ _ h3⟩⟩
theorem RowC.zero {W : World} {b o : Nat} {x y z u : Value} (h : RowC W b (o + 0 * 4) x y z u) : W.cell? ⟨b, o, none⟩ = some x ∧ W.cell? ⟨b, o + 1, none⟩ = some y ∧ W.cell? ⟨b, o + 2, none⟩ = some z ∧ W.cell? ⟨b, o + 3, none⟩ = some u := by
  rw [Nat.zero_mul, Nat.add_zero] at h; exact h
theorem RowC.one {W : World} {b o : Nat} {x y z u : Value} (h : RowC W b (o + 1 * 4) x y z u) : W.cell? ⟨b, o + 4, none⟩ = some x ∧ W.cell? ⟨b, o + 5, none⟩ = some y ∧ W.cell? ⟨b, o + 6, none⟩ = some z ∧ W.cell? ⟨b, o + 7, none⟩ = some u := by
  unfold RowC at h; simpa only [Nat.one_mul, Nat.add_assoc, Nat.reduceAdd] using h
theorem RowC.two {W : World} {b o : Nat} {x y z u : Value} (h : RowC W b (o + 2 * 4) x y z u) : W.cell? ⟨b, o + 8, none⟩ = some x ∧ W.cell? ⟨b, o + 9, none⟩ = some y ∧ W.cell? ⟨b, o + 10, none⟩ = some z ∧ W.cell? ⟨b, o + 11, none⟩ = some u := by
  unfold RowC at h; simpa only [Nat.reduceMul, Nat.add_assoc, Nat.reduceAdd] using h
set_option maxHeartbeats 8000000 in
theorem dnvalue_any (F : List Fd.Feed) (hok : Fd.Ok F) (day : Int) (hd : 0 ≤ day ∧ day ≤ 73048) (t : Co.T) : ∀ (ok : Nat → Prop) (vf v : Value) (w : World), CoreIn ok w t v → FeedsAt w vf F → Dn.Obs t →
    Calls Tryd.prog 30 #[.agg #[.int .i64 day, vf], v] w (Gives (optOut (Dn.value (Dn.eyes F day) t)) w) := by
  induction t using Co.T.ind with | h op n s ks ih => ?_
  intro ok vf v w hv hF hO
  obtain ⟨p, c, rfl, hc, hop, hn, hs, hk⟩ := hv.open
  simp only [Co.T.op, Co.T.n, Co.T.s, Co.T.ks] at hc hop hn hs hk ⊢
  have HF := hid' hF
  obtain ⟨fp, fc, rfl, -, -⟩ := hF
  have HOK := hid' hok
  have HD := hid' hd
  have HIH := hid' ih
  have HK := hid' hk
  have HEO := hid' (Dn.eyes_ok hok day)
  have z1 : ∀ (W : World) (o : Obj) (k : Nat) (x : Obj), W.heap[k]? = some x → (W.alloc o).heap[k]? = some x := fun W o k x h => (((Below.refl W.heap.size W).alloc (Nat.le_refl _) o).block k (lt_of_block h)).trans h
  have HB := hid' (((Below.refl w.heap.size w).alloc (Nat.le_refl _) (.cells #[.int .i64 day, .slice fp F.length fc] 51)).alloc (by simp) (.cells #[.int .i64 op, .int .i64 n, .string s, .slice p ks.length c] 24))
  have HE := hid' (z1 _ (.cells #[.int .i64 op, .int .i64 n, .string s, .slice p ks.length c] 24) _ _ (heap_alloc_new w (.cells #[.int .i64 day, .slice fp F.length fc] 51)))
  have HC := hid' (show ((w.alloc (.cells #[.int .i64 day, .slice fp F.length fc] 51)).alloc (.cells #[.int .i64 op, .int .i64 n, .string s, .slice p ks.length c] 24)).heap[w.heap.size + 1]? = some (.cells #[.int .i64 op, .int .i64 n, .string s, .slice p ks.length c] 24 (0, 0)) by
    have := heap_alloc_new (w.alloc (.cells #[.int .i64 day, .slice fp F.length fc] 51)) (.cells #[.int .i64 op, .int .i64 n, .string s, .slice p ks.length c] 24)
    simpa only [World.size_alloc] using this)
  obtain ⟨V, hV⟩ : ∃ V, Hid (Dn.value (Dn.eyes F day) (.mk op n s ks) = V) := ⟨_, hid' rfl⟩
  rw [hV.out]
  have hob := Dn.observable_of hO
  clear z1 hv hk hop hn hs hc ih hok hd hO
  go_enter Tryd.func30, Tryd.ntmps30
  go_upto_region 1 with (fail)
  generalize World.alloc _ _ = w1 at *
  obtain ⟨d0, d1, d2, d3⟩ := heap_cells4 HC.out
  have c0 := bcells HE.out 0 _ rfl
  have c1 := bcells HE.out 1 _ rfl
  rcases hob with (rfl | rfl | rfl) | ⟨rfl, hn3⟩ | ⟨rfl, hn3⟩ | hob
  · have e := hid' (show V = some n by rw [← hV.out, Dn.value_eq]; rfl)
    clear hV
    go_wp2_with fail
    go_ret2
    exact ⟨by rw [e.out]; rfl, HB.out⟩
  · have e := hid' (show V = some n by rw [← hV.out, Dn.value_eq]; rfl)
    clear hV
    go_wp2_with fail
    go_ret2
    exact ⟨by rw [e.out]; rfl, HB.out⟩
  · have e := hid' (show V = some n by rw [← hV.out, Dn.value_eq]; rfl)
    clear hV
    go_wp2_with fail
    go_ret2
    exact ⟨by rw [e.out]; rfl, HB.out⟩
  · have e := hid' (show V = Fd.tells F day s n by rw [← hV.out, Dn.value_eq]; rfl)
    have HFD := hid' (dfeed_any F HOK.out day n s HD.out hn3 _ w1 (HF.out.below HB.out))
    clear hV hn3
    generalize Fd.tells F day s n = X at *
    cases X with
    | none =>
      rw [optOut_none] at HFD
      go_wp2_with (first | (go_at_call 40; refine HFD.out.mono ?_; rintro e w2 ⟨rfl, b2⟩; have HB2 := hid' (HB.out.trans (b2.mono HB.out.size)); clear b2))
      go_ret2
      exact ⟨by rw [e.out]; rfl, HB2.out⟩
    | some x =>
      rw [optOut_some] at HFD
      go_wp2_with (first | (go_at_call 40; refine HFD.out.mono ?_; rintro e w2 ⟨rfl, b2⟩; have HB2 := hid' (HB.out.trans (b2.mono HB.out.size)); clear b2))
      go_ret2
      exact ⟨by rw [e.out]; rfl, HB2.out⟩
  · have e := hid' (show V = some (Dt.plus day (-n)) by rw [← hV.out, Dn.value_eq]; rfl)
    have HP := hid' (dplus_any day (-n) w1)
    have hw0 : IntKind.i64.wrap (-n) = -n := IntWalk.i64_in _ (by omega)
    clear hV hn3
    generalize Dt.plus day (-n) = X at *
    go_wp2_with (first | (go_at_call 41; refine HP.out.mono ?_; rintro e w2 ⟨rfl, rfl⟩))
    go_ret2
    exact ⟨by rw [e.out]; rfl, HB.out⟩
  have hop : op ≠ 1 ∧ op ≠ 2 ∧ op ≠ 3 ∧ op ≠ 4 ∧ op ≠ 5 := by
    rcases hob with ⟨h, -⟩ | ⟨h, -⟩ | ⟨h, -⟩ | ⟨h, -⟩
    · omega
    · omega
    · omega
    · unfold Dn.twoOp at h; omega
  have HKID : ∃ k : Co.T, ks[0]? = some k ∧ Dn.Obs k := by
    rcases hob with ⟨-, k, rfl, h, -⟩ | ⟨-, k, j, rfl, h, -⟩ | ⟨-, k, j, i, rfl, h, -⟩ | ⟨-, k, j, rfl, h, -⟩
    · exact ⟨k, rfl, h⟩
    · exact ⟨k, rfl, Dn.obs_b h⟩
    · exact ⟨k, rfl, Dn.obs_b h⟩
    · exact ⟨k, rfl, h⟩
  have HV2 := hid' (show Dn.thenV op ((Dn.values (Dn.eyes F day) ks).getD 0 none) (Dn.values (Dn.eyes F day) ks) = V by rw [← hV.out, Dn.value_op (by omega)])
  have a1 : (op == 1) = false := by rw [beq_eq_false_iff_ne]; exact hop.1
  have a2 : (op == 2) = false := by rw [beq_eq_false_iff_ne]; exact hop.2.1
  have a3 : (op == 3) = false := by rw [beq_eq_false_iff_ne]; exact hop.2.2.1
  have a4 : (op == 4) = false := by rw [beq_eq_false_iff_ne]; exact hop.2.2.2.1
  have a5 : (op == 5) = false := by rw [beq_eq_false_iff_ne]; exact hop.2.2.2.2
  obtain ⟨k, hk0, hkO⟩ := HKID
  obtain ⟨vk, hrow, hvk⟩ := HK.out 0 k hk0
  obtain ⟨b, off, rx, ry, rz, ru, rfl, rfl, hrc⟩ := row_cells hrow
  rw [Dn.values_at hk0] at HV2
  have K0 := hid' (fun W (h : Below w1.heap.size w1 W) => HIH.out k (List.mem_of_getElem? hk0) ok _ _ W (hvk.under (HB.out.trans (h.mono HB.out.size))) (HF.out.below (HB.out.trans (h.mono HB.out.size))) hkO)
  have HLEN := hid' (show 0 < ks.length from (List.getElem?_eq_some_iff.1 hk0).1)
  have j0 : (0 : Int) < (ks.length : Int) := by have := HLEN.out; omega
  have j0n : 0 < ks.length := HLEN.out
  have HFA := hid' (fun W (h : Below w1.heap.size w1 W) => And.intro (And.intro (bcells (box_below h HE.out) 0 _ rfl) (bcells (box_below h HE.out) 1 _ rfl)) (heap_cells4 (box_below h HC.out)))
  have HR := hid' (fun W (h : Below w1.heap.size w1 W) => (hrc W (HB.out.trans (h.mono HB.out.size))).zero)
  have HVT := hid' (fun (x : UInt8) v => Dn.value_ty HEO.out k x v)
  obtain ⟨X, hX⟩ : ∃ X, Hid (Dn.value (Dn.eyes F day) k = X) := ⟨_, hid' rfl⟩
  rw [hX.out] at K0 HV2
  clear hV hop hrow hvk hrc hkO
  go_upto_region 10 with (fail)
  clear d0 d1 d2 d3 c0 c1
  cases X with
  | none =>
    rw [optOut_none] at K0
    have e := hid' (show V = none from HV2.out.symm)
    refine wp_region_keep (Below w1.heap.size w1) (by kernel_rfl) (by kernel_rfl) (Below.refl _ _).drew ?_
    repeat (first
      | (refine wpKeep_skip ?_ ?_
         · rfl
         simp only [Act.put, List.setIfInBounds_toArray, List.set_cons_zero, List.set_cons_succ])
      | (apply wpKeep_call 30 #[.agg #[.int .i64 day, .slice fp F.length fc], .agg #[rx, ry, rz, ru]]
         · rfl
         · (intro w hSw; obtain ⟨⟨c0, c1⟩, d0, d1, d2, d3⟩ := HFA.out w hSw; obtain ⟨r0, r1, r2, r3⟩ := HR.out w hSw; go_simp; done)
         · (intro w hSw; refine (K0.out _ hSw).mono ?_; rintro e w'' ⟨rfl, b⟩; exact ⟨rfl, hSw.trans (b.mono hSw.size)⟩)
         simp only [Act.put, List.setIfInBounds_toArray, List.set_cons_zero, List.set_cons_succ])
      | (apply wpKeep_val
         · rfl
         · (intro w hSw; obtain ⟨⟨c0, c1⟩, d0, d1, d2, d3⟩ := HFA.out w hSw; obtain ⟨r0, r1, r2, r3⟩ := HR.out w hSw; first | (go_simp; done) | (go_simp; with_reducible rfl))
         simp only [Act.put, List.setIfInBounds_toArray, List.set_cons_zero, List.set_cons_succ]))
    refine wpKeep_nil ?_
    intro w2 hS'
    have HB2 := hid' (HB.out.trans (hS'.mono HB.out.size))
    clear hS'
    go_wp2_with fail
    go_ret2
    exact ⟨by rw [e.out]; rfl, HB2.out⟩
  | some a =>
    rw [optOut_some] at K0
    have HV3 := hid' (show Dn.after op a (Dn.values (Dn.eyes F day) ks) = V from HV2.out)
    refine wp_region_keep (Below w1.heap.size w1) (by kernel_rfl) (by kernel_rfl) (Below.refl _ _).drew ?_
    repeat (first
      | (refine wpKeep_skip ?_ ?_
         · rfl
         simp only [Act.put, List.setIfInBounds_toArray, List.set_cons_zero, List.set_cons_succ])
      | (apply wpKeep_call 30 #[.agg #[.int .i64 day, .slice fp F.length fc], .agg #[rx, ry, rz, ru]]
         · rfl
         · (intro w hSw; obtain ⟨⟨c0, c1⟩, d0, d1, d2, d3⟩ := HFA.out w hSw; obtain ⟨r0, r1, r2, r3⟩ := HR.out w hSw; go_simp; done)
         · (intro w hSw; refine (K0.out _ hSw).mono ?_; rintro e w'' ⟨rfl, b⟩; exact ⟨rfl, hSw.trans (b.mono hSw.size)⟩)
         simp only [Act.put, List.setIfInBounds_toArray, List.set_cons_zero, List.set_cons_succ])
      | (apply wpKeep_val
         · rfl
         · (intro w hSw; obtain ⟨⟨c0, c1⟩, d0, d1, d2, d3⟩ := HFA.out w hSw; obtain ⟨r0, r1, r2, r3⟩ := HR.out w hSw; first | (go_simp; done) | (go_simp; with_reducible rfl))
         simp only [Act.put, List.setIfInBounds_toArray, List.set_cons_zero, List.set_cons_succ]))
    refine wpKeep_nil ?_
    intro w2 hS'
    have HS2 := hid' hS'
    have HB2 := hid' (HB.out.trans (hS'.mono HB.out.size))
    clear hS' HV2
    obtain ⟨⟨c0, c1⟩, d0, d1, d2, d3⟩ := HFA.out w2 HS2.out
    rcases hob with ⟨h6 | h14, k', rfl, h, h98⟩ | ⟨hop, k', j, rfl, hkb, hj⟩ | ⟨h22, k', j, i, rfl, hkb, hj, hi⟩ | ⟨htw, k', j, rfl, -, hj⟩
    · subst h6
      have e := hid' (show V = some (Num.neg a) from HV3.out.symm)
      have HN := hid' (neg_any a w2)
      clear h
      generalize Num.neg a = Y at *
      go_wp2_with (first | (go_at_call 29; refine HN.out.mono ?_; rintro e w3 ⟨rfl, rfl⟩))
      go_ret2
      exact ⟨by rw [e.out]; rfl, HB2.out⟩
    · subst h14
      have e := hid' (show V = some (1 - a) from HV3.out.symm)
      obtain rfl : k' = k := by simpa using hk0
      have hr := (HVT.out 98 a (h98 rfl) (by decide) (by decide) hX.out).1 rfl
      have hw0 : IntKind.i64.wrap (1 - a) = 1 - a := IntWalk.i64_in _ (by omega)
      clear h hr h98
      go_wp2_with fail
      go_ret2
      exact ⟨by rw [e.out]; rfl, HB2.out⟩
    · obtain rfl : k' = k := by simpa using hk0
      have hr := (HVT.out 98 a hkb (by decide) (by decide) hX.out).1 rfl
      have hnx : ¬ ((op = 15 ∧ a = 0) ∨ (op = 16 ∧ a = 1)) → V = Dn.value (Dn.eyes F day) j := fun hh => by
        rw [← HV3.out]
        unfold Dn.after
        rw [if_neg (by omega), if_neg (by omega), if_neg hh, if_pos hop]
        rfl
      have HNX := hid' hnx
      obtain ⟨vj, hrj, hvj⟩ := HK.out 1 j rfl
      obtain ⟨b', off', sx, sy, sz, su, e1, rfl, hrc⟩ := row_cells hrj
      cases e1
      have K1 := hid' (fun W (h : Below w1.heap.size w1 W) => HIH.out j (by simp) ok _ _ W (hvj.under (HB.out.trans (h.mono HB.out.size))) (HF.out.below (HB.out.trans (h.mono HB.out.size))) hj)
      have HR1 := hid' (fun W (h : Below w1.heap.size w1 W) => (hrc W (HB.out.trans (h.mono HB.out.size))).one)
      obtain ⟨Y, hY⟩ : ∃ Y, Hid (Dn.value (Dn.eyes F day) j = Y) := ⟨_, hid' rfl⟩
      rw [hY.out] at K1
      clear hrj hvj hrc
      clear hnx hkb hj
      rcases hop with rfl | rfl
      · rcases hr with rfl | rfl
        · have e := hid' (show V = some 0 from HV3.out.symm)
          go_wp2_with fail
          go_ret2
          exact ⟨by rw [e.out]; rfl, HB2.out⟩
        · have e := HNX.out (by omega)
          replace e := hid' e
          go_upto_region 22 with (fail)
          rw [hY.out] at e
          clear c0 c1 d0 d1 d2 d3
          cases Y with
          | none =>
            rw [optOut_none] at K1
            refine wp_region_keep (Below w1.heap.size w1) (by kernel_rfl) (by kernel_rfl) HS2.out.drew ?_
            repeat (first
              | (refine wpKeep_skip ?_ ?_
                 · rfl
                 simp only [Act.put, List.setIfInBounds_toArray, List.set_cons_zero, List.set_cons_succ])
              | (apply wpKeep_call 30 #[.agg #[.int .i64 day, .slice fp F.length fc], .agg #[sx, sy, sz, su]]
                 · rfl
                 · (intro w hSw; obtain ⟨⟨c0, c1⟩, d0, d1, d2, d3⟩ := HFA.out w hSw; obtain ⟨r0, r1, r2, r3⟩ := HR1.out w hSw; go_simp; done)
                 · (intro w hSw; refine (K1.out _ hSw).mono ?_; rintro e w'' ⟨rfl, b⟩; exact ⟨rfl, hSw.trans (b.mono hSw.size)⟩)
                 simp only [Act.put, List.setIfInBounds_toArray, List.set_cons_zero, List.set_cons_succ])
              | (apply wpKeep_val
                 · rfl
                 · (intro w hSw; obtain ⟨⟨c0, c1⟩, d0, d1, d2, d3⟩ := HFA.out w hSw; obtain ⟨r0, r1, r2, r3⟩ := HR1.out w hSw; first | (go_simp; done) | (go_simp; with_reducible rfl))
                 simp only [Act.put, List.setIfInBounds_toArray, List.set_cons_zero, List.set_cons_succ]))
            refine wpKeep_nil ?_
            intro w3 hS'
            have HB3 := hid' (HB.out.trans (hS'.mono HB.out.size))
            clear hS'
            go_wp2_with fail
            go_ret2
            exact ⟨by rw [e.out]; rfl, HB3.out⟩
          | some y =>
            rw [optOut_some] at K1
            refine wp_region_keep (Below w1.heap.size w1) (by kernel_rfl) (by kernel_rfl) HS2.out.drew ?_
            repeat (first
              | (refine wpKeep_skip ?_ ?_
                 · rfl
                 simp only [Act.put, List.setIfInBounds_toArray, List.set_cons_zero, List.set_cons_succ])
              | (apply wpKeep_call 30 #[.agg #[.int .i64 day, .slice fp F.length fc], .agg #[sx, sy, sz, su]]
                 · rfl
                 · (intro w hSw; obtain ⟨⟨c0, c1⟩, d0, d1, d2, d3⟩ := HFA.out w hSw; obtain ⟨r0, r1, r2, r3⟩ := HR1.out w hSw; go_simp; done)
                 · (intro w hSw; refine (K1.out _ hSw).mono ?_; rintro e w'' ⟨rfl, b⟩; exact ⟨rfl, hSw.trans (b.mono hSw.size)⟩)
                 simp only [Act.put, List.setIfInBounds_toArray, List.set_cons_zero, List.set_cons_succ])
              | (apply wpKeep_val
                 · rfl
                 · (intro w hSw; obtain ⟨⟨c0, c1⟩, d0, d1, d2, d3⟩ := HFA.out w hSw; obtain ⟨r0, r1, r2, r3⟩ := HR1.out w hSw; first | (go_simp; done) | (go_simp; with_reducible rfl))
                 simp only [Act.put, List.setIfInBounds_toArray, List.set_cons_zero, List.set_cons_succ]))
            refine wpKeep_nil ?_
            intro w3 hS'
            have HB3 := hid' (HB.out.trans (hS'.mono HB.out.size))
            clear hS'
            go_wp2_with fail
            go_ret2
            exact ⟨by rw [e.out]; rfl, HB3.out⟩
      · rcases hr with rfl | rfl
        · have e := HNX.out (by omega)
          replace e := hid' e
          go_upto_region 22 with (fail)
          rw [hY.out] at e
          clear c0 c1 d0 d1 d2 d3
          cases Y with
          | none =>
            rw [optOut_none] at K1
            refine wp_region_keep (Below w1.heap.size w1) (by kernel_rfl) (by kernel_rfl) HS2.out.drew ?_
            repeat (first
              | (refine wpKeep_skip ?_ ?_
                 · rfl
                 simp only [Act.put, List.setIfInBounds_toArray, List.set_cons_zero, List.set_cons_succ])
              | (apply wpKeep_call 30 #[.agg #[.int .i64 day, .slice fp F.length fc], .agg #[sx, sy, sz, su]]
                 · rfl
                 · (intro w hSw; obtain ⟨⟨c0, c1⟩, d0, d1, d2, d3⟩ := HFA.out w hSw; obtain ⟨r0, r1, r2, r3⟩ := HR1.out w hSw; go_simp; done)
                 · (intro w hSw; refine (K1.out _ hSw).mono ?_; rintro e w'' ⟨rfl, b⟩; exact ⟨rfl, hSw.trans (b.mono hSw.size)⟩)
                 simp only [Act.put, List.setIfInBounds_toArray, List.set_cons_zero, List.set_cons_succ])
              | (apply wpKeep_val
                 · rfl
                 · (intro w hSw; obtain ⟨⟨c0, c1⟩, d0, d1, d2, d3⟩ := HFA.out w hSw; obtain ⟨r0, r1, r2, r3⟩ := HR1.out w hSw; first | (go_simp; done) | (go_simp; with_reducible rfl))
                 simp only [Act.put, List.setIfInBounds_toArray, List.set_cons_zero, List.set_cons_succ]))
            refine wpKeep_nil ?_
            intro w3 hS'
            have HB3 := hid' (HB.out.trans (hS'.mono HB.out.size))
            clear hS'
            go_wp2_with fail
            go_ret2
            exact ⟨by rw [e.out]; rfl, HB3.out⟩
          | some y =>
            rw [optOut_some] at K1
            refine wp_region_keep (Below w1.heap.size w1) (by kernel_rfl) (by kernel_rfl) HS2.out.drew ?_
            repeat (first
              | (refine wpKeep_skip ?_ ?_
                 · rfl
                 simp only [Act.put, List.setIfInBounds_toArray, List.set_cons_zero, List.set_cons_succ])
              | (apply wpKeep_call 30 #[.agg #[.int .i64 day, .slice fp F.length fc], .agg #[sx, sy, sz, su]]
                 · rfl
                 · (intro w hSw; obtain ⟨⟨c0, c1⟩, d0, d1, d2, d3⟩ := HFA.out w hSw; obtain ⟨r0, r1, r2, r3⟩ := HR1.out w hSw; go_simp; done)
                 · (intro w hSw; refine (K1.out _ hSw).mono ?_; rintro e w'' ⟨rfl, b⟩; exact ⟨rfl, hSw.trans (b.mono hSw.size)⟩)
                 simp only [Act.put, List.setIfInBounds_toArray, List.set_cons_zero, List.set_cons_succ])
              | (apply wpKeep_val
                 · rfl
                 · (intro w hSw; obtain ⟨⟨c0, c1⟩, d0, d1, d2, d3⟩ := HFA.out w hSw; obtain ⟨r0, r1, r2, r3⟩ := HR1.out w hSw; first | (go_simp; done) | (go_simp; with_reducible rfl))
                 simp only [Act.put, List.setIfInBounds_toArray, List.set_cons_zero, List.set_cons_succ]))
            refine wpKeep_nil ?_
            intro w3 hS'
            have HB3 := hid' (HB.out.trans (hS'.mono HB.out.size))
            clear hS'
            go_wp2_with fail
            go_ret2
            exact ⟨by rw [e.out]; rfl, HB3.out⟩
        · have e := hid' (show V = some 1 from HV3.out.symm)
          go_wp2_with fail
          go_ret2
          exact ⟨by rw [e.out]; rfl, HB2.out⟩
    · obtain rfl : k' = k := by simpa using hk0
      subst h22
      have hr := (HVT.out 98 a hkb (by decide) (by decide) hX.out).1 rfl
      clear hkb
      rcases hr with ha | ha
      · have e := hid' (show V = Dn.value (Dn.eyes F day) i by rw [← HV3.out, ha]; rfl)
        have hwr : IntKind.i64.wrap (2 - a) = 2 := by rw [ha, IntWalk.i64_in _ (by omega)]; rfl
        clear ha
        obtain ⟨vj, hrj, hvj⟩ := HK.out 2 i rfl
        obtain ⟨b', off', sx, sy, sz, su, e1, rfl, hrc⟩ := row_cells hrj
        cases e1
        have K1 := hid' (fun W (h : Below w1.heap.size w1 W) => HIH.out i (by simp) ok _ _ W (hvj.under (HB.out.trans (h.mono HB.out.size))) (HF.out.below (HB.out.trans (h.mono HB.out.size))) hi)
        have HR1 := hid' (fun W (h : Below w1.heap.size w1 W) => (hrc W (HB.out.trans (h.mono HB.out.size))).two)
        obtain ⟨Y, hY⟩ : ∃ Y, Hid (Dn.value (Dn.eyes F day) i = Y) := ⟨_, hid' rfl⟩
        rw [hY.out] at K1
        clear hrj hvj hrc
        clear hi hj
        go_upto_region 24 with (fail)
        rw [hY.out] at e
        clear c0 c1 d0 d1 d2 d3
        cases Y with
        | none =>
          rw [optOut_none] at K1
          refine wp_region_keep (Below w1.heap.size w1) (by kernel_rfl) (by kernel_rfl) HS2.out.drew ?_
          repeat (first
            | (refine wpKeep_skip ?_ ?_
               · rfl
               simp only [Act.put, List.setIfInBounds_toArray, List.set_cons_zero, List.set_cons_succ])
            | (apply wpKeep_call 30 #[.agg #[.int .i64 day, .slice fp F.length fc], .agg #[sx, sy, sz, su]]
               · rfl
               · (intro w hSw; obtain ⟨⟨c0, c1⟩, d0, d1, d2, d3⟩ := HFA.out w hSw; obtain ⟨r0, r1, r2, r3⟩ := HR1.out w hSw; go_simp; done)
               · (intro w hSw; refine (K1.out _ hSw).mono ?_; rintro e w'' ⟨rfl, b⟩; exact ⟨rfl, hSw.trans (b.mono hSw.size)⟩)
               simp only [Act.put, List.setIfInBounds_toArray, List.set_cons_zero, List.set_cons_succ])
            | (apply wpKeep_val
               · rfl
               · (intro w hSw; obtain ⟨⟨c0, c1⟩, d0, d1, d2, d3⟩ := HFA.out w hSw; obtain ⟨r0, r1, r2, r3⟩ := HR1.out w hSw; first | (go_simp; done) | (go_simp; with_reducible rfl))
               simp only [Act.put, List.setIfInBounds_toArray, List.set_cons_zero, List.set_cons_succ]))
          refine wpKeep_nil ?_
          intro w3 hS'
          have HB3 := hid' (HB.out.trans (hS'.mono HB.out.size))
          clear hS'
          go_wp2_with fail
          go_ret2
          exact ⟨by rw [e.out]; rfl, HB3.out⟩
        | some y =>
          rw [optOut_some] at K1
          refine wp_region_keep (Below w1.heap.size w1) (by kernel_rfl) (by kernel_rfl) HS2.out.drew ?_
          repeat (first
            | (refine wpKeep_skip ?_ ?_
               · rfl
               simp only [Act.put, List.setIfInBounds_toArray, List.set_cons_zero, List.set_cons_succ])
            | (apply wpKeep_call 30 #[.agg #[.int .i64 day, .slice fp F.length fc], .agg #[sx, sy, sz, su]]
               · rfl
               · (intro w hSw; obtain ⟨⟨c0, c1⟩, d0, d1, d2, d3⟩ := HFA.out w hSw; obtain ⟨r0, r1, r2, r3⟩ := HR1.out w hSw; go_simp; done)
               · (intro w hSw; refine (K1.out _ hSw).mono ?_; rintro e w'' ⟨rfl, b⟩; exact ⟨rfl, hSw.trans (b.mono hSw.size)⟩)
               simp only [Act.put, List.setIfInBounds_toArray, List.set_cons_zero, List.set_cons_succ])
            | (apply wpKeep_val
               · rfl
               · (intro w hSw; obtain ⟨⟨c0, c1⟩, d0, d1, d2, d3⟩ := HFA.out w hSw; obtain ⟨r0, r1, r2, r3⟩ := HR1.out w hSw; first | (go_simp; done) | (go_simp; with_reducible rfl))
               simp only [Act.put, List.setIfInBounds_toArray, List.set_cons_zero, List.set_cons_succ]))
          refine wpKeep_nil ?_
          intro w3 hS'
          have HB3 := hid' (HB.out.trans (hS'.mono HB.out.size))
          clear hS'
          go_wp2_with fail
          go_ret2
          exact ⟨by rw [e.out]; rfl, HB3.out⟩
      · have e := hid' (show V = Dn.value (Dn.eyes F day) j by rw [← HV3.out, ha]; rfl)
        have hwr : IntKind.i64.wrap (2 - a) = 1 := by rw [ha, IntWalk.i64_in _ (by omega)]; rfl
        clear ha
        obtain ⟨vj, hrj, hvj⟩ := HK.out 1 j rfl
        obtain ⟨b', off', sx, sy, sz, su, e1, rfl, hrc⟩ := row_cells hrj
        cases e1
        have K1 := hid' (fun W (h : Below w1.heap.size w1 W) => HIH.out j (by simp) ok _ _ W (hvj.under (HB.out.trans (h.mono HB.out.size))) (HF.out.below (HB.out.trans (h.mono HB.out.size))) hj)
        have HR1 := hid' (fun W (h : Below w1.heap.size w1 W) => (hrc W (HB.out.trans (h.mono HB.out.size))).one)
        obtain ⟨Y, hY⟩ : ∃ Y, Hid (Dn.value (Dn.eyes F day) j = Y) := ⟨_, hid' rfl⟩
        rw [hY.out] at K1
        clear hrj hvj hrc
        clear hi hj
        go_upto_region 24 with (fail)
        rw [hY.out] at e
        clear c0 c1 d0 d1 d2 d3
        cases Y with
        | none =>
          rw [optOut_none] at K1
          refine wp_region_keep (Below w1.heap.size w1) (by kernel_rfl) (by kernel_rfl) HS2.out.drew ?_
          repeat (first
            | (refine wpKeep_skip ?_ ?_
               · rfl
               simp only [Act.put, List.setIfInBounds_toArray, List.set_cons_zero, List.set_cons_succ])
            | (apply wpKeep_call 30 #[.agg #[.int .i64 day, .slice fp F.length fc], .agg #[sx, sy, sz, su]]
               · rfl
               · (intro w hSw; obtain ⟨⟨c0, c1⟩, d0, d1, d2, d3⟩ := HFA.out w hSw; obtain ⟨r0, r1, r2, r3⟩ := HR1.out w hSw; go_simp; done)
               · (intro w hSw; refine (K1.out _ hSw).mono ?_; rintro e w'' ⟨rfl, b⟩; exact ⟨rfl, hSw.trans (b.mono hSw.size)⟩)
               simp only [Act.put, List.setIfInBounds_toArray, List.set_cons_zero, List.set_cons_succ])
            | (apply wpKeep_val
               · rfl
               · (intro w hSw; obtain ⟨⟨c0, c1⟩, d0, d1, d2, d3⟩ := HFA.out w hSw; obtain ⟨r0, r1, r2, r3⟩ := HR1.out w hSw; first | (go_simp; done) | (go_simp; with_reducible rfl))
               simp only [Act.put, List.setIfInBounds_toArray, List.set_cons_zero, List.set_cons_succ]))
          refine wpKeep_nil ?_
          intro w3 hS'
          have HB3 := hid' (HB.out.trans (hS'.mono HB.out.size))
          clear hS'
          go_wp2_with fail
          go_ret2
          exact ⟨by rw [e.out]; rfl, HB3.out⟩
        | some y =>
          rw [optOut_some] at K1
          refine wp_region_keep (Below w1.heap.size w1) (by kernel_rfl) (by kernel_rfl) HS2.out.drew ?_
          repeat (first
            | (refine wpKeep_skip ?_ ?_
               · rfl
               simp only [Act.put, List.setIfInBounds_toArray, List.set_cons_zero, List.set_cons_succ])
            | (apply wpKeep_call 30 #[.agg #[.int .i64 day, .slice fp F.length fc], .agg #[sx, sy, sz, su]]
               · rfl
               · (intro w hSw; obtain ⟨⟨c0, c1⟩, d0, d1, d2, d3⟩ := HFA.out w hSw; obtain ⟨r0, r1, r2, r3⟩ := HR1.out w hSw; go_simp; done)
               · (intro w hSw; refine (K1.out _ hSw).mono ?_; rintro e w'' ⟨rfl, b⟩; exact ⟨rfl, hSw.trans (b.mono hSw.size)⟩)
               simp only [Act.put, List.setIfInBounds_toArray, List.set_cons_zero, List.set_cons_succ])
            | (apply wpKeep_val
               · rfl
               · (intro w hSw; obtain ⟨⟨c0, c1⟩, d0, d1, d2, d3⟩ := HFA.out w hSw; obtain ⟨r0, r1, r2, r3⟩ := HR1.out w hSw; first | (go_simp; done) | (go_simp; with_reducible rfl))
               simp only [Act.put, List.setIfInBounds_toArray, List.set_cons_zero, List.set_cons_succ]))
          refine wpKeep_nil ?_
          intro w3 hS'
          have HB3 := hid' (HB.out.trans (hS'.mono HB.out.size))
          clear hS'
          go_wp2_with fail
          go_ret2
          exact ⟨by rw [e.out]; rfl, HB3.out⟩
    · have e0 := hid' (show Dn.second op a (Dn.value (Dn.eyes F day) j) = V by
        rw [← HV3.out]
        unfold Dn.after
        unfold Dn.twoOp at htw
        rw [if_neg (by omega), if_neg (by omega), if_neg (by omega), if_neg (by omega), if_neg (by omega)]
        rfl)
      have htw' := htw
      unfold Dn.twoOp at htw'
      have a6 : (op == 6) = false := by rw [beq_eq_false_iff_ne]; omega
      have a14 : (op == 14) = false := by rw [beq_eq_false_iff_ne]; omega
      have a15 : (op == 15) = false := by rw [beq_eq_false_iff_ne]; omega
      have a16 : (op == 16) = false := by rw [beq_eq_false_iff_ne]; omega
      have a22 : (op == 22) = false := by rw [beq_eq_false_iff_ne]; omega
      have HTW := hid' htw
      obtain ⟨vj, hrj, hvj⟩ := HK.out 1 j rfl
      obtain ⟨b', off', sx, sy, sz, su, e1, rfl, hrc⟩ := row_cells hrj
      cases e1
      have K1 := hid' (fun W (h : Below w1.heap.size w1 W) => HIH.out j (by simp) ok _ _ W (hvj.under (HB.out.trans (h.mono HB.out.size))) (HF.out.below (HB.out.trans (h.mono HB.out.size))) hj)
      have HR1 := hid' (fun W (h : Below w1.heap.size w1 W) => (hrc W (HB.out.trans (h.mono HB.out.size))).one)
      obtain ⟨Y, hY⟩ : ∃ Y, Hid (Dn.value (Dn.eyes F day) j = Y) := ⟨_, hid' rfl⟩
      rw [hY.out] at K1
      clear hrj hvj hrc
      rw [hY.out] at e0
      clear htw htw' hj
      go_upto_region 25 with (fail)
      clear c0 c1 d0 d1 d2 d3
      cases Y with
      | none =>
        rw [optOut_none] at K1
        have e := hid' (show V = none from e0.out.symm)
        refine wp_region_keep (Below w1.heap.size w1) (by kernel_rfl) (by kernel_rfl) HS2.out.drew ?_
        repeat (first
          | (refine wpKeep_skip ?_ ?_
             · rfl
             simp only [Act.put, List.setIfInBounds_toArray, List.set_cons_zero, List.set_cons_succ])
          | (apply wpKeep_call 30 #[.agg #[.int .i64 day, .slice fp F.length fc], .agg #[sx, sy, sz, su]]
             · rfl
             · (intro w hSw; obtain ⟨⟨c0, c1⟩, d0, d1, d2, d3⟩ := HFA.out w hSw; obtain ⟨r0, r1, r2, r3⟩ := HR1.out w hSw; go_simp; done)
             · (intro w hSw; refine (K1.out _ hSw).mono ?_; rintro e w'' ⟨rfl, b⟩; exact ⟨rfl, hSw.trans (b.mono hSw.size)⟩)
             simp only [Act.put, List.setIfInBounds_toArray, List.set_cons_zero, List.set_cons_succ])
          | (apply wpKeep_val
             · rfl
             · (intro w hSw; obtain ⟨⟨c0, c1⟩, d0, d1, d2, d3⟩ := HFA.out w hSw; obtain ⟨r0, r1, r2, r3⟩ := HR1.out w hSw; first | (go_simp; done) | (go_simp; with_reducible rfl))
             simp only [Act.put, List.setIfInBounds_toArray, List.set_cons_zero, List.set_cons_succ]))
        refine wpKeep_nil ?_
        intro w3 hS'
        have HB3 := hid' (HB.out.trans (hS'.mono HB.out.size))
        clear hS'
        go_wp2_with fail
        go_ret2
        exact ⟨by rw [e.out]; rfl, HB3.out⟩
      | some bv =>
        rw [optOut_some] at K1
        have e := hid' (show V = some (Dn.rk op a bv) from e0.out.symm)
        refine wp_region_keep (Below w1.heap.size w1) (by kernel_rfl) (by kernel_rfl) HS2.out.drew ?_
        repeat (first
          | (refine wpKeep_skip ?_ ?_
             · rfl
             simp only [Act.put, List.setIfInBounds_toArray, List.set_cons_zero, List.set_cons_succ])
          | (apply wpKeep_call 30 #[.agg #[.int .i64 day, .slice fp F.length fc], .agg #[sx, sy, sz, su]]
             · rfl
             · (intro w hSw; obtain ⟨⟨c0, c1⟩, d0, d1, d2, d3⟩ := HFA.out w hSw; obtain ⟨r0, r1, r2, r3⟩ := HR1.out w hSw; go_simp; done)
             · (intro w hSw; refine (K1.out _ hSw).mono ?_; rintro e w'' ⟨rfl, b⟩; exact ⟨rfl, hSw.trans (b.mono hSw.size)⟩)
             simp only [Act.put, List.setIfInBounds_toArray, List.set_cons_zero, List.set_cons_succ])
          | (apply wpKeep_val
             · rfl
             · (intro w hSw; obtain ⟨⟨c0, c1⟩, d0, d1, d2, d3⟩ := HFA.out w hSw; obtain ⟨r0, r1, r2, r3⟩ := HR1.out w hSw; first | (go_simp; done) | (go_simp; with_reducible rfl))
             simp only [Act.put, List.setIfInBounds_toArray, List.set_cons_zero, List.set_cons_succ]))
        refine wpKeep_nil ?_
        intro w3 hS'
        have HB3 := hid' (HB.out.trans (hS'.mono HB.out.size))
        obtain ⟨⟨c0, c1⟩, d0, d1, d2, d3⟩ := HFA.out w3 hS'
        have HRK := hid' (dnreckon_any op a bv HTW.out w3)
        clear hS'
        generalize Dn.rk op a bv = Z at *
        go_wp2_with (first | (go_at_call 42; refine HRK.out.mono ?_; rintro e w4 ⟨rfl, b4⟩; have HB4 := hid' (HB3.out.trans (b4.mono HB3.out.size)); clear b4))
        go_ret2
        exact ⟨by rw [e.out]; rfl, HB4.out⟩
end Go.Proofs.YtcpobnknmegkmaaDoor
namespace Go.Proofs.YtcpobnknmegkmaaDoor
open Go.RowKit
open Rw
set_option linter.unusedVariables false
set_option linter.unusedSimpArgs false
set_option maxRecDepth 100000
theorem append_live {w : World} {ops : Array Oper} {rest : List Oper} {o : Oper} {a : Act} {Q : Exit → Act → World → Prop} (hgd : o.guard = none) (s x : Operand)
    (ho : o.op = .call { callee := .builtin .append, args := #[s, x], argTypes := #[29, 29] })
    (base : Nat) (v : Value) (L : List (Int × Int)) (hs : a.eval s = v) (hown : LiveRow base w v L) (y : Int × Int) (hx : a.eval x = .slice (some ⟨w.heap.size, 0, none⟩) 1 1)
    (hbound : L.length + 1 ≤ 100000000) (hbase : base ≤ w.heap.size)
    (h : ∀ v' w', LiveRow base w' v' (L ++ [y]) → w.grownBy w' v.ownBlock → wpList Tryd.prog ops Q rest (a.put o.dst v') w') :
    wpList Tryd.prog ops Q (o :: rest) a (w.alloc (.cells #[.int .i64 y.1, .int .i64 y.2] 45)) := by
  obtain ⟨i, hi, hz, hsz, hby⟩ := info_split info_live
  refine wpList_append_own _ hgd s x 29 ho base 45 i _ 2 16 Tryd.underlying29 hi hz hsz hby rfl (by decide) v L.length _ hs (World.ownsRow.alloc hown _) ⟨w.heap.size, 0, none⟩ 1 1 (live2 y) hx rfl
    (fun j u hj => ?_) (fun u hu => ?_) (by unfold maxLen; omega) (by omega) (by simp; omega) (fun v' w' h1 h2 _ => h v' w' ?_ (grown_trans (grown_of_below ((Below.refl _ _).alloc (Nat.le_refl _) _) _) h2))
  · rw [add_gen, World.cell?_alloc_new, Nat.zero_add, ← hj]
    simp [live2]
  · simp only [live2, List.mem_cons, List.not_mem_nil, or_false] at hu
    rcases hu with rfl | rfl <;> rfl
  · show World.ownsRow w' base _ 2 v' (L ++ [y]).length ((L ++ [y]).flatMap live2)
    rw [List.length_append, List.flatMap_append]
    simpa using h1
set_option maxHeartbeats 16000000 in
theorem dnacq_any {W0 : World} {rb : Nat} {F : List Fd.Feed} {day : Int} {vf : Value} (hE : RunEnv W0 rb F day vf) (t : Co.T) : ∀ (ok : Nat → Prop) (v : Value) (a f : Int) (L : List (Int × Int)) (O : List (ByteArray × Int)) (vl vo : Value) (w : World),
    CoreIn ok W0 t v → t.letter = 99 → t.size ≤ 2000000 → 0 ≤ a → a + (t.size : Nat) ≤ 4000000 → Dn.NumOk f → L.length + t.size ≤ 90000000 → O.length + t.size ≤ 90000000 → Runs W0 rb day vf L O vl vo w →
    Calls Tryd.prog 18 #[.pointer (some ⟨rb, 0, none⟩), v, .int .i64 a, .int .i64 f] w (AcqPost W0 rb day vf L O (Dn.acq (Dn.eyes F day) t a f) w) := by
  induction t using Co.T.ind with | h op n s ks ih => ?_
  intro ok v a f L O vl vo w hv hx hsz ha ha2 hf hL hO hR
  have hz : (Co.T.mk op n s ks).size = 1 + Co.sizes ks := by rw [Co.T.size]
  have hn : I64 n := by obtain ⟨_, _, _, _, _, h, _⟩ := hv.open; exact h
  have hkid : ∀ (i : Nat) (k : Co.T) (g : Int) (L : List (Int × Int)) (O : List (ByteArray × Int)) (vl vo : Value) (W : World), ks[i]? = some k → k.letter = 99 → Dn.NumOk g → L.length + k.size ≤ 90000000 → O.length + k.size ≤ 90000000 → Runs W0 rb day vf L O vl vo W →
      Calls Tryd.prog 23 #[.pointer (some ⟨rb, 0, none⟩), v, .int .i64 a, .int .i64 (i : Int), .int .i64 g] W (AcqPost W0 rb day vf L O (Dn.kidA (Dn.eyes F day) ks i a g) W) := by
    intro i k g L O vl vo W hki hkx hg hL hO hR
    have hm := Co.sizes_mem (List.mem_of_getElem? hki)
    have hm2 := Dn.take_sizes hki
    rw [Dn.kidA_at hki]
    refine dnkid_any hE ok v hv hsz a g ⟨ha, by omega⟩ i k hki L O _ (fun vk w1 vl vo hvk hr => ?_) W vl vo hR
    exact ih k (List.mem_of_getElem? hki) ok vk _ g L O vl vo w1 hvk hkx (by omega) (by omega) (by omega) hg hL hO hr
  have hval : ∀ (i : Nat) (k : Co.T) (vk : Value) (W : World), ks[i]? = some k → Dn.Obs k → CoreIn ok W0 k vk → Below rb W0 W → Calls Tryd.prog 30 #[.agg #[.int .i64 day, vf], vk] W (Gives (optOut (Dn.value (Dn.eyes F day) k)) W) := by
    intro i k vk W hki hko hvk hb
    exact dnvalue_any F hE.ok day hE.day k ok vf vk W (hvk.far hb hE.rb) (by
      obtain ⟨fp, fc, e, hl, h⟩ := hE.fs
      refine ⟨fp, fc, e, hl, fun j x hj => ?_⟩
      obtain ⟨b, off, sv, e1, hb1, ⟨x0, x1⟩, ⟨sp, sc, e2, hl2, hss⟩, h4⟩ := h j x hj
      have lt : ∀ {b : Nat}, b < W0.heap.size → b < rb := fun h => Nat.lt_of_lt_of_le h hE.rb
      have sz : rb ≤ W.heap.size ∨ W0.heap.size ≤ W.heap.size := .inr hb.size
      refine ⟨b, off, sv, e1, Nat.lt_of_lt_of_le hb1 hb.size, ⟨(hb.cell (p := ⟨b, _, none⟩) (lt hb1)).trans x0, (hb.cell (p := ⟨b, _, none⟩) (lt hb1)).trans x1⟩, ⟨sp, sc, e2, hl2, fun m y hy => ?_⟩, h4⟩
      obtain ⟨b', off', e3, hb3, ⟨y0, y1⟩, h5⟩ := hss m y hy
      exact ⟨b', off', e3, Nat.lt_of_lt_of_le hb3 hb.size, ⟨(hb.cell (p := ⟨b', _, none⟩) (lt hb3)).trans y0, (hb.cell (p := ⟨b', _, none⟩) (lt hb3)).trans y1⟩, h5⟩) hko
  have HROW := hid' (fun (i : Nat) (k : Co.T) (h : ks[i]? = some k) => hv.open)
  obtain ⟨p, c, rfl, hc, -, -, hs, hk⟩ := hv.open
  simp only [Co.T.op, Co.T.n, Co.T.s, Co.T.ks] at hk hc hs hkid ⊢
  have hct := Dn.contract_of hx
  have HCT := hid' hx
  have HKID := hid' hkid
  have HVAL := hid' hval
  have HK := hid' hk
  have HE := hid' hE
  have HZ := hid' hz
  have HEO := hid' (Dn.eyes_ok hE.ok day)
  have HLO := hid' (And.intro hL hO)
  have HF := hid' hf
  have HB := hid' ((Below.refl w.heap.size w).alloc (Nat.le_refl _) (.cells #[.int .i64 op, .int .i64 n, .string s, .slice p ks.length c] 24))
  have HC := hid' (heap_alloc_new w (.cells #[.int .i64 op, .int .i64 n, .string s, .slice p ks.length c] 24))
  have HKP := hid' (KpR.below (mb := rb) HB.out (Nat.le_of_lt hR.lt))
  have HR1 := hid' (hR.below HB.out)
  have HN := hid' (show rb ≠ w.heap.size from Nat.ne_of_lt hR.lt)
  obtain ⟨R, hRR⟩ : ∃ R, Hid (Dn.acq (Dn.eyes F day) (.mk op n s ks) a f = R) := ⟨_, hid' rfl⟩
  rw [hRR.out]
  clear hkid hval hv hx hsz ha ha2 hf hL hO hR hz ih hk hc hs hE hn
  go_enter Tryd.func18, Tryd.ntmps18
  go_upto_region 1 with (fail)
  generalize World.alloc _ _ = w1 at *
  have HFA := hid' (fun W (h : Below w1.heap.size w1 W) => And.intro (bcells (box_below h HR1.out.box) 0 _ rfl) (And.intro (bcells (box_below h HR1.out.box) 1 _ rfl) (heap_cells4 (box_below h HC.out))))
  refine wp_region_keep (Below w1.heap.size w1) (by kernel_rfl) (by kernel_rfl) (Below.refl _ _).drew ?_
  repeat (first
    | (refine wpKeep_skip ?_ ?_
       · rfl
       simp only [Act.put, List.setIfInBounds_toArray, List.set_cons_zero, List.set_cons_succ])
    | (apply wpKeep_val
       · rfl
       · (intro w hSw; obtain ⟨c0, c1, d0, d1, d2, d3⟩ := HFA.out w hSw; first | (go_simp; done) | (go_simp; with_reducible rfl))
       simp only [Act.put, List.setIfInBounds_toArray, List.set_cons_zero, List.set_cons_succ]))
  refine wpKeep_nil ?_
  intro w2 hS'
  have HS2 := hid' hS'
  clear hS'
  go_upto_region 2 with (fail)
  refine wp_region_keep (Below w1.heap.size w1) (by kernel_rfl) (by kernel_rfl) HS2.out.drew ?_
  repeat (first
    | (refine wpKeep_skip ?_ ?_
       · rfl
       simp only [Act.put, List.setIfInBounds_toArray, List.set_cons_zero, List.set_cons_succ])
    | (apply wpKeep_val
       · rfl
       · (intro w hSw; obtain ⟨c0, c1, d0, d1, d2, d3⟩ := HFA.out w hSw; first | (go_simp; done) | (go_simp; with_reducible rfl))
       simp only [Act.put, List.setIfInBounds_toArray, List.set_cons_zero, List.set_cons_succ]))
  refine wpKeep_nil ?_
  intro w3 hS'
  have HS3 := hid' hS'
  clear hS' HS2
  have HR3 := hid' (HR1.out.below HS3.out)
  have HKP3 := hid' (HKP.out.trans (KpR.below (mb := rb) HS3.out (Nat.le_of_lt HR1.out.lt)))
  have HC3 := hid' (box_below HS3.out HC.out)
  obtain ⟨c0, c1, d0, d1, d2, d3⟩ := HFA.out w3 HS3.out
  rcases hct with (⟨rfl, rfl⟩ | ⟨rfl, rfl⟩) | ⟨h | h, k, rfl, hk⟩ | ⟨rfl, q, k, rfl, ho, hk⟩ | ⟨h | h, k, j, rfl, hk, hj⟩ | ⟨rfl, q, k, j, rfl, ho, hk, hj⟩ | ⟨rfl, q, k, rfl, ho, hk⟩
  · have e := hid' (show R = Dn.nothing by rw [← hRR.out, Dn.acq_23])
    go_wp2_with fail
    refine bodyPost_ret (results_none rfl _ _ _) rfl ⟨⟨_, rfl⟩, ?_, HKP3.out⟩
    rw [e.out]
    exact ⟨_, _, by simpa only [Dn.nothing, List.append_nil] using HR3.out⟩
  · by_cases hf0 : f = 0
    · have e := hid' (show R = Dn.nothing by rw [← hRR.out, Dn.acq_24, if_pos hf0]; rfl)
      have g0 : (f != 0) = false := by rw [hf0]; rfl
      have g1 : (f == 0) = true := by rw [hf0]; rfl
      clear hf0
      go_wp2_with fail
      refine bodyPost_ret (results_none rfl _ _ _) rfl ⟨⟨_, rfl⟩, ?_, HKP3.out⟩
      rw [e.out]
      exact ⟨_, _, by simpa only [Dn.nothing, List.append_nil] using HR3.out⟩
    · have e := hid' (show R = ([], [(s, f)]) by rw [← hRR.out, Dn.acq_24, if_neg hf0])
      have g0 : (f != 0) = true := by rw [bne_iff_ne]; exact hf0
      have g1 : (f == 0) = false := by rw [beq_eq_false_iff_ne]; exact hf0
      clear hf0
      go_upto_region 12 with (fail)
      have r3 := bcells HR3.out.box 3 _ rfl
      have r3' := alloc_cell r3 (.cells #[.int .i64 day, .string s, .int .i64 f] 43)
      have c0' := alloc_cell c0 (.cells #[.int .i64 day, .string s, .int .i64 f] 43)
      have d2' := alloc_cell d2 (.cells #[.int .i64 day, .string s, .int .i64 f] 43)
      have HTS : Hid (TranRow (rb + 1) w3.drew vo day O) := hid' (World.ownsRow.drew HR3.out.ts)
      have HLD := hid' (HR3.out.below (Below.refl w3.heap.size w3).drew)
      have HLB := hid' (show O.length + 1 ≤ 100000000 by have := HLO.out; omega)
      have HMB := hid' (show rb + 1 ≤ w3.drew.heap.size from HLD.out.lt)
      go_region_law (first | (refine step_tran rfl _ _ (by rfl) (rb + 1) vo day O (by rfl) HTS.out (s, f) (by rfl) HLB.out HMB.out ?_; intro v' w5 h5 h6; have hk5 := (h6.block rb HLD.out.lt (fun e => own_lt HTS.out (Nat.lt_succ_self _) e.symm)).trans HLD.out.box; have hkc := bcells hk5 3 _ rfl; have hkf := frozen_of (o := 3) hk5; obtain ⟨hp, hc', rfl⟩ := row_form h5))
      all_goals have HL5 := hid' (Runs.pushTran HLD.out (y := (s, f)) h5 h6)
      all_goals simp only [List.length_append, List.length_cons, List.length_nil, Nat.zero_add] at HL5
      all_goals clear h5 h6 r3 r3' c0' d2' hk5 hkc hkf c0 c1 d0 d1 d2 d3
      all_goals go_wp2_with fail
      all_goals
        refine bodyPost_ret (results_none rfl _ _ _) rfl ⟨⟨_, rfl⟩, ?_, (HKP3.out.trans (KpR.below (mb := rb) (Below.refl _ _).drew (Nat.le_of_lt HR3.out.lt))).trans HL5.out.2⟩
        rw [e.out]
        exact ⟨_, _, by simpa only [List.append_nil] using HL5.out.1⟩
  · subst h
    have e := hid' (show R = Dn.kidA (Dn.eyes F day) [k] 0 a (Num.neg f) by rw [← hRR.out, Dn.acq_25])
    have HNG := hid' (fun W => neg_any f W)
    have HNO := hid' (Dn.num_neg (f := f))
    have HQ := hid' (fun (W : World) (h : Below w1.heap.size w1 W) => HKID.out 0 k (Num.neg f) _ _ _ _ W rfl hk HNO.out (by have := HLO.out; have := HZ.out; simp only [Co.sizes] at this; omega) (by have := HLO.out; have := HZ.out; simp only [Co.sizes] at this; omega) (HR1.out.below h))
    rw [show ((0 : Nat) : Int) = 0 from rfl] at HQ
    generalize Num.neg f = G at *
    go_upto_region 14 with (fail)
    clear c0 c1 d0 d1 d2 d3
    refine wp_region_keep_tail (Below w1.heap.size w1) 5 (by kernel_rfl) (by kernel_rfl) HS3.out.drew ?_
    simp only [List.take_succ_cons, List.take_zero, List.drop_succ_cons, List.drop_zero]
    repeat (first
      | (refine wpKeep_skip ?_ ?_
         · rfl
         simp only [Act.put, List.setIfInBounds_toArray, List.set_cons_zero, List.set_cons_succ])
      | (apply wpKeep_call 29 #[.int .i64 f]
         · rfl
         · (intro w hSw; obtain ⟨c0, c1, d0, d1, d2, d3⟩ := HFA.out w hSw; go_simp; done)
         · (intro w hSw; refine (HNG.out _).mono ?_; rintro e w'' ⟨rfl, rfl⟩; exact ⟨rfl, hSw⟩)
         simp only [Act.put, List.setIfInBounds_toArray, List.set_cons_zero, List.set_cons_succ])
      | (apply wpKeep_val
         · rfl
         · (intro w hSw; obtain ⟨c0, c1, d0, d1, d2, d3⟩ := HFA.out w hSw; first | (go_simp; done) | (go_simp; with_reducible rfl))
         simp only [Act.put, List.setIfInBounds_toArray, List.set_cons_zero, List.set_cons_succ]))
    refine wpKeep_nil ?_
    intro w4 hS'
    have HQ4 := hid' (HQ.out w4 hS')
    have HKP4 := hid' (HKP.out.trans (KpR.below (mb := rb) hS' (Nat.le_of_lt HR1.out.lt)))
    clear hS'
    go_wp2_with (first | (go_at_call 23; refine HQ4.out.mono ?_; rintro e w5 ⟨⟨x, rfl⟩, hr5, k5⟩; have HP5 := hid' (And.intro hr5 k5); clear hr5 k5))
    refine bodyPost_ret (results_none rfl _ _ _) rfl ⟨⟨_, rfl⟩, ?_, HKP4.out.trans HP5.out.2⟩
    rw [e.out]
    exact HP5.out.1
  · subst h
    by_cases hd : n ≤ day
    · have e := hid' (show R = Dn.kidA (Dn.eyes F day) [k] 0 a f by rw [← hRR.out, Dn.acq_29, if_pos (show n ≤ (Dn.eyes F day).day from hd)])
      have g0 : decide (n ≤ day) = true := decide_eq_true hd
      have HQ := hid' (HKID.out 0 k f _ _ _ _ w3 rfl hk HF.out (by have := HLO.out; have := HZ.out; simp only [Co.sizes] at this; omega) (by have := HLO.out; have := HZ.out; simp only [Co.sizes] at this; omega) HR3.out)
      rw [show ((0 : Nat) : Int) = 0 from rfl] at HQ
      go_wp2_with (first | (go_at_call 23; refine HQ.out.mono ?_; rintro e w5 ⟨⟨x, rfl⟩, hr5, k5⟩; have HP5 := hid' (And.intro hr5 k5); clear hr5 k5))
      refine bodyPost_ret (results_none rfl _ _ _) rfl ⟨⟨_, rfl⟩, ?_, HKP3.out.trans HP5.out.2⟩
      rw [e.out]
      exact HP5.out.1
    · have e := hid' (show R = Dn.waitR a f by rw [← hRR.out, Dn.acq_29, if_neg (show ¬ n ≤ (Dn.eyes F day).day from hd)])
      have g0 : decide (n ≤ day) = false := decide_eq_false hd
      go_upto_region 29 with (fail)
      have r2 := bcells HR3.out.box 2 _ rfl
      have HLB := hid' (show L.length + 1 ≤ 100000000 by have := HLO.out; omega)
      clear c0 c1 d0 d1 d2 d3
      go_wp2_with (refine append_live rfl _ _ rfl (rb + 1) _ _ rfl HR3.out.ls (a, f) rfl HLB.out HR3.out.lt (fun v' w5 h5 h6 => ?_); refine halt' ?_)
      refine hid' ?_
      have hk5 := (h6.block rb HR3.out.lt (fun e => own_lt HR3.out.ls (Nat.lt_succ_self _) e.symm)).trans HR3.out.box
      have hkc := bcells hk5 2 _ rfl
      have hkf := frozen_of (o := 2) hk5
      have HL5 := hid' (Runs.pushLive HR3.out (y := (a, f)) h5 h6)
      obtain ⟨hp, hc', rfl⟩ := row_form h5
      simp only [List.length_append, List.length_cons, List.length_nil, Nat.zero_add] at HL5
      clear h5 h6 r2 hk5
      go_wp2_with fail
      refine bodyPost_end (results_none rfl _ _ _) rfl ⟨⟨_, rfl⟩, ?_, HKP3.out.trans HL5.out.2⟩
      rw [e.out]
      exact ⟨_, _, by simpa only [Dn.waitR, List.append_nil] using HL5.out.1⟩
  · have hob := Dn.obs_n ho
    obtain ⟨vq, hrq, hvq⟩ := HK.out 0 q rfl
    obtain ⟨b, off, sx, sy, sz, su, rfl, rfl, hrc⟩ := row_cells hrq
    have HRC := hid' (fun W (h : Below w1.heap.size w1 W) => RowC.zero (W := W) (b := b) (o := off) (x := sx) (y := sy) (z := sz) (u := su) (by
      have hb := (HR1.out.below h).bel
      obtain ⟨b', off', x', y', z', u', e1, hl, e2, q0, q1, q2, q3⟩ := hrq.keep (W' := W) (ok' := ok) (fun b h hl => ⟨h, hb.block b (Nat.lt_of_lt_of_le hl HE.out.rb)⟩)
      cases e1
      cases e2
      exact ⟨q0, q1, q2, q3⟩))
    have HQV := hid' (fun W (h : Below w1.heap.size w1 W) => HVAL.out 0 q _ W rfl hob hvq (HR1.out.below h).bel)
    obtain ⟨X, hX⟩ : ∃ X, Hid (Dn.value (Dn.eyes F day) q = X) := ⟨_, hid' rfl⟩
    have HVT := hid' (fun (x : UInt8) v => Dn.value_ty HEO.out q x v)
    rw [hX.out] at HQV
    clear hrq hvq hrc
    go_upto_region 4 with (fail)
    clear c0 c1 d0 d1 d2 d3
    have HVX := hid' (show (Dn.values (Dn.eyes F day) [q, k]).getD 0 none = X by rw [Dn.values_at (k := q) rfl, hX.out])
    cases X with
    | none =>
      rw [optOut_none] at HQV
      have e := hid' (show R = Dn.waitR a f by rw [← hRR.out, Dn.acq_26, HVX.out])
      refine wp_region_keep (Below w1.heap.size w1) (by kernel_rfl) (by kernel_rfl) HS3.out.drew ?_
      repeat (first
        | (refine wpKeep_skip ?_ ?_
           · rfl
           simp only [Act.put, List.setIfInBounds_toArray, List.set_cons_zero, List.set_cons_succ])
        | (apply wpKeep_call 30 #[.agg #[.int .i64 day, vf], .agg #[sx, sy, sz, su]]
           · rfl
           · (intro w hSw; obtain ⟨c0, c1, d0, d1, d2, d3⟩ := HFA.out w hSw; obtain ⟨r0, r1, r2, r3⟩ := HRC.out w hSw; go_simp; done)
           · (intro w hSw; refine (HQV.out _ hSw).mono ?_; rintro e w'' ⟨rfl, b⟩; exact ⟨rfl, hSw.trans (b.mono hSw.size)⟩)
           simp only [Act.put, List.setIfInBounds_toArray, List.set_cons_zero, List.set_cons_succ])
        | (apply wpKeep_val
           · rfl
           · (intro w hSw; obtain ⟨c0, c1, d0, d1, d2, d3⟩ := HFA.out w hSw; obtain ⟨r0, r1, r2, r3⟩ := HRC.out w hSw; first | (go_simp; done) | (go_simp; with_reducible rfl))
           simp only [Act.put, List.setIfInBounds_toArray, List.set_cons_zero, List.set_cons_succ]))
      refine wpKeep_nil ?_
      intro w4 hS'
      have HS4 := hid' hS'
      have HR4 := hid' (HR1.out.below hS')
      have HKP4 := hid' (HKP.out.trans (KpR.below (mb := rb) hS' (Nat.le_of_lt HR1.out.lt)))
      obtain ⟨c0, c1, d0, d1, d2, d3⟩ := HFA.out w4 hS'
      clear hS'
      go_upto_region 29 with (fail)
      have r2 := bcells HR4.out.box 2 _ rfl
      have HLB := hid' (show L.length + 1 ≤ 100000000 by have := HLO.out; omega)
      clear c0 c1 d0 d1 d2 d3
      go_wp2_with (refine append_live rfl _ _ rfl (rb + 1) _ _ rfl HR4.out.ls (a, f) rfl HLB.out HR4.out.lt (fun v' w5 h5 h6 => ?_); refine halt' ?_)
      refine hid' ?_
      have hk5 := (h6.block rb HR4.out.lt (fun e => own_lt HR4.out.ls (Nat.lt_succ_self _) e.symm)).trans HR4.out.box
      have hkc := bcells hk5 2 _ rfl
      have hkf := frozen_of (o := 2) hk5
      have HL5 := hid' (Runs.pushLive HR4.out (y := (a, f)) h5 h6)
      obtain ⟨hp, hc', rfl⟩ := row_form h5
      simp only [List.length_append, List.length_cons, List.length_nil, Nat.zero_add] at HL5
      clear h5 h6 r2 hk5
      go_wp2_with fail
      refine bodyPost_end (results_none rfl _ _ _) rfl ⟨⟨_, rfl⟩, ?_, HKP4.out.trans HL5.out.2⟩
      rw [e.out]
      exact ⟨_, _, by simpa only [Dn.waitR, List.append_nil] using HL5.out.1⟩
    | some x =>
      rw [optOut_some] at HQV
      have e := hid' (show R = Dn.kidA (Dn.eyes F day) [q, k] 1 a (Num.mul f x) by rw [← hRR.out, Dn.acq_26, HVX.out])
      have HML := hid' (fun W => mul_any f x W)
      have HMO := hid' (Dn.num_mul f x)
      have HQ := hid' (fun (W : World) (h : Below w1.heap.size w1 W) => HKID.out 1 k (Num.mul f x) _ _ _ _ W rfl hk HMO.out (by have := HLO.out; have := HZ.out; simp only [Co.sizes] at this; omega) (by have := HLO.out; have := HZ.out; simp only [Co.sizes] at this; omega) (HR1.out.below h))
      rw [show ((1 : Nat) : Int) = 1 from rfl] at HQ
      generalize Num.mul f x = G at *
      refine wp_region_keep (Below w1.heap.size w1) (by kernel_rfl) (by kernel_rfl) HS3.out.drew ?_
      repeat (first
        | (refine wpKeep_skip ?_ ?_
           · rfl
           simp only [Act.put, List.setIfInBounds_toArray, List.set_cons_zero, List.set_cons_succ])
        | (apply wpKeep_call 30 #[.agg #[.int .i64 day, vf], .agg #[sx, sy, sz, su]]
           · rfl
           · (intro w hSw; obtain ⟨c0, c1, d0, d1, d2, d3⟩ := HFA.out w hSw; obtain ⟨r0, r1, r2, r3⟩ := HRC.out w hSw; go_simp; done)
           · (intro w hSw; refine (HQV.out _ hSw).mono ?_; rintro e w'' ⟨rfl, b⟩; exact ⟨rfl, hSw.trans (b.mono hSw.size)⟩)
           simp only [Act.put, List.setIfInBounds_toArray, List.set_cons_zero, List.set_cons_succ])
        | (apply wpKeep_val
           · rfl
           · (intro w hSw; obtain ⟨c0, c1, d0, d1, d2, d3⟩ := HFA.out w hSw; obtain ⟨r0, r1, r2, r3⟩ := HRC.out w hSw; first | (go_simp; done) | (go_simp; with_reducible rfl))
           simp only [Act.put, List.setIfInBounds_toArray, List.set_cons_zero, List.set_cons_succ]))
      refine wpKeep_nil ?_
      intro w4 hS'
      have HS4 := hid' hS'
      have HR4 := hid' (HR1.out.below hS')
      have HKP4 := hid' (HKP.out.trans (KpR.below (mb := rb) hS' (Nat.le_of_lt HR1.out.lt)))
      obtain ⟨c0, c1, d0, d1, d2, d3⟩ := HFA.out w4 hS'
      clear hS'
      go_upto_region 7 with (fail)
      clear c0 c1 d0 d1 d2 d3
      refine wp_region_keep_tail (Below w1.heap.size w1) 6 (by kernel_rfl) (by kernel_rfl) HS4.out.drew ?_
      simp only [List.take_succ_cons, List.take_zero, List.drop_succ_cons, List.drop_zero]
      repeat (first
        | (refine wpKeep_skip ?_ ?_
           · rfl
           simp only [Act.put, List.setIfInBounds_toArray, List.set_cons_zero, List.set_cons_succ])
        | (apply wpKeep_call 31 #[.int .i64 f, .int .i64 x]
           · rfl
           · (intro w hSw; obtain ⟨c0, c1, d0, d1, d2, d3⟩ := HFA.out w hSw; go_simp; done)
           · (intro w hSw; refine (HML.out _).mono ?_; rintro e w'' ⟨rfl, m, rfl⟩; exact ⟨rfl, Below.drewn hSw m⟩)
           simp only [Act.put, List.setIfInBounds_toArray, List.set_cons_zero, List.set_cons_succ])
        | (apply wpKeep_val
           · rfl
           · (intro w hSw; obtain ⟨c0, c1, d0, d1, d2, d3⟩ := HFA.out w hSw; first | (go_simp; done) | (go_simp; with_reducible rfl))
           simp only [Act.put, List.setIfInBounds_toArray, List.set_cons_zero, List.set_cons_succ]))
      refine wpKeep_nil ?_
      intro w5 hS'
      have HQ5 := hid' (HQ.out w5 hS')
      have HKP5 := hid' (HKP.out.trans (KpR.below (mb := rb) hS' (Nat.le_of_lt HR1.out.lt)))
      clear hS'
      go_wp2_with (first | (go_at_call 23; refine HQ5.out.mono ?_; rintro e w6 ⟨⟨x', rfl⟩, hr5, k5⟩; have HP5 := hid' (And.intro hr5 k5); clear hr5 k5))
      refine bodyPost_ret (results_none rfl _ _ _) rfl ⟨⟨_, rfl⟩, ?_, HKP5.out.trans HP5.out.2⟩
      rw [e.out]
      exact HP5.out.1
  · subst h
    have e := hid' (show R = Dn.both (Dn.kidA (Dn.eyes F day) [k, j] 0 a f) (Dn.kidA (Dn.eyes F day) [k, j] 1 a f) by rw [← hRR.out, Dn.acq_27])
    have hlen := Dn.acq_len HEO.out k (a + 1 + (Co.sizes ([k, j].take 0) : Nat)) f hk HF.out
    rw [← Dn.kidA_at (ks := [k, j]) (i := 0) rfl] at hlen
    have HLEN := hid' hlen
    clear hlen
    have HQ := hid' (HKID.out 0 k f _ _ _ _ w3 rfl hk HF.out (by have := HLO.out; have := HZ.out; simp only [Co.sizes] at this; omega) (by have := HLO.out; have := HZ.out; simp only [Co.sizes] at this; omega) HR3.out)
    rw [show ((0 : Nat) : Int) = 0 from rfl] at HQ
    obtain ⟨r0, hr0⟩ : ∃ r, Hid (Dn.kidA (Dn.eyes F day) [k, j] 0 a f = r) := ⟨_, hid' rfl⟩
    rw [hr0.out] at HQ HLEN e
    go_upto_region 17 with (first | (go_at_call 23; refine HQ.out.mono ?_; rintro e w5 ⟨⟨x, rfl⟩, ⟨vl5, vo5, hr5⟩, k5⟩; have HP5 := hid' (And.intro hr5 k5); clear hr5 k5))
    have HC5 := hid' (HP5.out.2.box HN.out.symm (by decide) (by decide) HC3.out)
    have HQ2 := hid' (HKID.out 1 j f _ _ _ _ w5 rfl hj HF.out (by have := HLO.out; have := HZ.out; have := HLEN.out; simp only [Co.sizes, List.length_append] at *; omega) (by have := HLO.out; have := HZ.out; have := HLEN.out; simp only [Co.sizes, List.length_append] at *; omega) HP5.out.1)
    rw [show ((1 : Nat) : Int) = 1 from rfl] at HQ2
    clear c0 c1 d0 d1 d2 d3
    obtain ⟨d0, d1, d2, d3⟩ := heap_cells4 HC5.out
    go_wp2_with (first | (go_at_call 23; refine HQ2.out.mono ?_; rintro e w6 ⟨⟨x, rfl⟩, hr6, k6⟩; have HP6 := hid' (And.intro hr6 k6); clear hr6 k6))
    refine bodyPost_ret (results_none rfl _ _ _) rfl ⟨⟨_, rfl⟩, ?_, (HKP3.out.trans HP5.out.2).trans HP6.out.2⟩
    rw [e.out]
    unfold Dn.both
    simp only [← List.append_assoc]
    exact HP6.out.1
  · subst h
    by_cases hd : n < day
    · have e := hid' (show R = Dn.kidA (Dn.eyes F day) [k, j] 1 a f by rw [← hRR.out, Dn.acq_31, if_pos (show n < (Dn.eyes F day).day from hd)])
      have g0 : decide (n < day) = true := decide_eq_true hd
      have HQ := hid' (HKID.out 1 j f _ _ _ _ w3 rfl hj HF.out (by have := HLO.out; have := HZ.out; simp only [Co.sizes] at this; omega) (by have := HLO.out; have := HZ.out; simp only [Co.sizes] at this; omega) HR3.out)
      rw [show ((1 : Nat) : Int) = 1 from rfl] at HQ
      go_wp2_with (first | (go_at_call 23; refine HQ.out.mono ?_; rintro e w5 ⟨⟨x, rfl⟩, hr5, k5⟩; have HP5 := hid' (And.intro hr5 k5); clear hr5 k5))
      refine bodyPost_ret (results_none rfl _ _ _) rfl ⟨⟨_, rfl⟩, ?_, HKP3.out.trans HP5.out.2⟩
      rw [e.out]
      exact HP5.out.1
    · have e := hid' (show R = Dn.waitR a f by rw [← hRR.out, Dn.acq_31, if_neg (show ¬ n < (Dn.eyes F day).day from hd)])
      have g0 : decide (n < day) = false := decide_eq_false hd
      go_upto_region 29 with (fail)
      have r2 := bcells HR3.out.box 2 _ rfl
      have HLB := hid' (show L.length + 1 ≤ 100000000 by have := HLO.out; omega)
      clear c0 c1 d0 d1 d2 d3
      go_wp2_with (refine append_live rfl _ _ rfl (rb + 1) _ _ rfl HR3.out.ls (a, f) rfl HLB.out HR3.out.lt (fun v' w5 h5 h6 => ?_); refine halt' ?_)
      refine hid' ?_
      have hk5 := (h6.block rb HR3.out.lt (fun e => own_lt HR3.out.ls (Nat.lt_succ_self _) e.symm)).trans HR3.out.box
      have hkc := bcells hk5 2 _ rfl
      have hkf := frozen_of (o := 2) hk5
      have HL5 := hid' (Runs.pushLive HR3.out (y := (a, f)) h5 h6)
      obtain ⟨hp, hc', rfl⟩ := row_form h5
      simp only [List.length_append, List.length_cons, List.length_nil, Nat.zero_add] at HL5
      clear h5 h6 r2 hk5
      go_wp2_with fail
      refine bodyPost_end (results_none rfl _ _ _) rfl ⟨⟨_, rfl⟩, ?_, HKP3.out.trans HL5.out.2⟩
      rw [e.out]
      exact ⟨_, _, by simpa only [Dn.waitR, List.append_nil] using HL5.out.1⟩
  · have hob := Dn.obs_b ho
    obtain ⟨vq, hrq, hvq⟩ := HK.out 0 q rfl
    obtain ⟨b, off, sx, sy, sz, su, rfl, rfl, hrc⟩ := row_cells hrq
    have HRC := hid' (fun W (h : Below w1.heap.size w1 W) => RowC.zero (W := W) (b := b) (o := off) (x := sx) (y := sy) (z := sz) (u := su) (by
      have hb := (HR1.out.below h).bel
      obtain ⟨b', off', x', y', z', u', e1, hl, e2, q0, q1, q2, q3⟩ := hrq.keep (W' := W) (ok' := ok) (fun b h hl => ⟨h, hb.block b (Nat.lt_of_lt_of_le hl HE.out.rb)⟩)
      cases e1
      cases e2
      exact ⟨q0, q1, q2, q3⟩))
    have HQV := hid' (fun W (h : Below w1.heap.size w1 W) => HVAL.out 0 q _ W rfl hob hvq (HR1.out.below h).bel)
    obtain ⟨X, hX⟩ : ∃ X, Hid (Dn.value (Dn.eyes F day) q = X) := ⟨_, hid' rfl⟩
    have HVT := hid' (fun (x : UInt8) v => Dn.value_ty HEO.out q x v)
    rw [hX.out] at HQV
    clear hrq hvq hrc
    go_upto_region 4 with (fail)
    clear c0 c1 d0 d1 d2 d3
    have HVX := hid' (show (Dn.values (Dn.eyes F day) [q, k, j]).getD 0 none = X by rw [Dn.values_at (k := q) rfl, hX.out])
    cases X with
    | none =>
      rw [optOut_none] at HQV
      have e := hid' (show R = Dn.waitR a f by rw [← hRR.out, Dn.acq_28, HVX.out])
      refine wp_region_keep (Below w1.heap.size w1) (by kernel_rfl) (by kernel_rfl) HS3.out.drew ?_
      repeat (first
        | (refine wpKeep_skip ?_ ?_
           · rfl
           simp only [Act.put, List.setIfInBounds_toArray, List.set_cons_zero, List.set_cons_succ])
        | (apply wpKeep_call 30 #[.agg #[.int .i64 day, vf], .agg #[sx, sy, sz, su]]
           · rfl
           · (intro w hSw; obtain ⟨c0, c1, d0, d1, d2, d3⟩ := HFA.out w hSw; obtain ⟨r0, r1, r2, r3⟩ := HRC.out w hSw; go_simp; done)
           · (intro w hSw; refine (HQV.out _ hSw).mono ?_; rintro e w'' ⟨rfl, b⟩; exact ⟨rfl, hSw.trans (b.mono hSw.size)⟩)
           simp only [Act.put, List.setIfInBounds_toArray, List.set_cons_zero, List.set_cons_succ])
        | (apply wpKeep_val
           · rfl
           · (intro w hSw; obtain ⟨c0, c1, d0, d1, d2, d3⟩ := HFA.out w hSw; obtain ⟨r0, r1, r2, r3⟩ := HRC.out w hSw; first | (go_simp; done) | (go_simp; with_reducible rfl))
           simp only [Act.put, List.setIfInBounds_toArray, List.set_cons_zero, List.set_cons_succ]))
      refine wpKeep_nil ?_
      intro w4 hS'
      have HS4 := hid' hS'
      have HR4 := hid' (HR1.out.below hS')
      have HKP4 := hid' (HKP.out.trans (KpR.below (mb := rb) hS' (Nat.le_of_lt HR1.out.lt)))
      obtain ⟨c0, c1, d0, d1, d2, d3⟩ := HFA.out w4 hS'
      clear hS'
      go_upto_region 29 with (fail)
      have r2 := bcells HR4.out.box 2 _ rfl
      have HLB := hid' (show L.length + 1 ≤ 100000000 by have := HLO.out; omega)
      clear c0 c1 d0 d1 d2 d3
      go_wp2_with (refine append_live rfl _ _ rfl (rb + 1) _ _ rfl HR4.out.ls (a, f) rfl HLB.out HR4.out.lt (fun v' w5 h5 h6 => ?_); refine halt' ?_)
      refine hid' ?_
      have hk5 := (h6.block rb HR4.out.lt (fun e => own_lt HR4.out.ls (Nat.lt_succ_self _) e.symm)).trans HR4.out.box
      have hkc := bcells hk5 2 _ rfl
      have hkf := frozen_of (o := 2) hk5
      have HL5 := hid' (Runs.pushLive HR4.out (y := (a, f)) h5 h6)
      obtain ⟨hp, hc', rfl⟩ := row_form h5
      simp only [List.length_append, List.length_cons, List.length_nil, Nat.zero_add] at HL5
      clear h5 h6 r2 hk5
      go_wp2_with fail
      refine bodyPost_end (results_none rfl _ _ _) rfl ⟨⟨_, rfl⟩, ?_, HKP4.out.trans HL5.out.2⟩
      rw [e.out]
      exact ⟨_, _, by simpa only [Dn.waitR, List.append_nil] using HL5.out.1⟩
    | some x =>
      rw [optOut_some] at HQV
      have hr := (HVT.out 98 x ho (by decide) (by decide) hX.out).1 rfl
      rcases hr with hx0 | hx0
      · have e := hid' (show R = Dn.kidA (Dn.eyes F day) [q, k, j] 2 a f by rw [← hRR.out, Dn.acq_28, HVX.out, hx0]; rfl)
        have hwr : IntKind.i64.wrap (2 - x) = 2 := by rw [hx0, IntWalk.i64_in _ (by omega)]; rfl
        clear hx0
        refine wp_region_keep (Below w1.heap.size w1) (by kernel_rfl) (by kernel_rfl) HS3.out.drew ?_
        repeat (first
          | (refine wpKeep_skip ?_ ?_
             · rfl
             simp only [Act.put, List.setIfInBounds_toArray, List.set_cons_zero, List.set_cons_succ])
          | (apply wpKeep_call 30 #[.agg #[.int .i64 day, vf], .agg #[sx, sy, sz, su]]
             · rfl
             · (intro w hSw; obtain ⟨c0, c1, d0, d1, d2, d3⟩ := HFA.out w hSw; obtain ⟨r0, r1, r2, r3⟩ := HRC.out w hSw; go_simp; done)
             · (intro w hSw; refine (HQV.out _ hSw).mono ?_; rintro e w'' ⟨rfl, b⟩; exact ⟨rfl, hSw.trans (b.mono hSw.size)⟩)
             simp only [Act.put, List.setIfInBounds_toArray, List.set_cons_zero, List.set_cons_succ])
          | (apply wpKeep_val
             · rfl
             · (intro w hSw; obtain ⟨c0, c1, d0, d1, d2, d3⟩ := HFA.out w hSw; obtain ⟨r0, r1, r2, r3⟩ := HRC.out w hSw; first | (go_simp; done) | (go_simp; with_reducible rfl))
             simp only [Act.put, List.setIfInBounds_toArray, List.set_cons_zero, List.set_cons_succ]))
        refine wpKeep_nil ?_
        intro w4 hS'
        have HS4 := hid' hS'
        have HR4 := hid' (HR1.out.below hS')
        have HKP4 := hid' (HKP.out.trans (KpR.below (mb := rb) hS' (Nat.le_of_lt HR1.out.lt)))
        obtain ⟨c0, c1, d0, d1, d2, d3⟩ := HFA.out w4 hS'
        clear hS'
        have HQ := hid' (HKID.out 2 j f _ _ _ _ w4 rfl hj HF.out (by have := HLO.out; have := HZ.out; simp only [Co.sizes] at this; omega) (by have := HLO.out; have := HZ.out; simp only [Co.sizes] at this; omega) HR4.out)
        rw [show ((2 : Nat) : Int) = 2 from rfl] at HQ
        go_wp2_with (first | (go_at_call 23; refine HQ.out.mono ?_; rintro e w5 ⟨⟨x, rfl⟩, hr5, k5⟩; have HP5 := hid' (And.intro hr5 k5); clear hr5 k5))
        refine bodyPost_ret (results_none rfl _ _ _) rfl ⟨⟨_, rfl⟩, ?_, HKP4.out.trans HP5.out.2⟩
        rw [e.out]
        exact HP5.out.1
      · have e := hid' (show R = Dn.kidA (Dn.eyes F day) [q, k, j] 1 a f by rw [← hRR.out, Dn.acq_28, HVX.out, hx0]; rfl)
        have hwr : IntKind.i64.wrap (2 - x) = 1 := by rw [hx0, IntWalk.i64_in _ (by omega)]; rfl
        clear hx0
        refine wp_region_keep (Below w1.heap.size w1) (by kernel_rfl) (by kernel_rfl) HS3.out.drew ?_
        repeat (first
          | (refine wpKeep_skip ?_ ?_
             · rfl
             simp only [Act.put, List.setIfInBounds_toArray, List.set_cons_zero, List.set_cons_succ])
          | (apply wpKeep_call 30 #[.agg #[.int .i64 day, vf], .agg #[sx, sy, sz, su]]
             · rfl
             · (intro w hSw; obtain ⟨c0, c1, d0, d1, d2, d3⟩ := HFA.out w hSw; obtain ⟨r0, r1, r2, r3⟩ := HRC.out w hSw; go_simp; done)
             · (intro w hSw; refine (HQV.out _ hSw).mono ?_; rintro e w'' ⟨rfl, b⟩; exact ⟨rfl, hSw.trans (b.mono hSw.size)⟩)
             simp only [Act.put, List.setIfInBounds_toArray, List.set_cons_zero, List.set_cons_succ])
          | (apply wpKeep_val
             · rfl
             · (intro w hSw; obtain ⟨c0, c1, d0, d1, d2, d3⟩ := HFA.out w hSw; obtain ⟨r0, r1, r2, r3⟩ := HRC.out w hSw; first | (go_simp; done) | (go_simp; with_reducible rfl))
             simp only [Act.put, List.setIfInBounds_toArray, List.set_cons_zero, List.set_cons_succ]))
        refine wpKeep_nil ?_
        intro w4 hS'
        have HS4 := hid' hS'
        have HR4 := hid' (HR1.out.below hS')
        have HKP4 := hid' (HKP.out.trans (KpR.below (mb := rb) hS' (Nat.le_of_lt HR1.out.lt)))
        obtain ⟨c0, c1, d0, d1, d2, d3⟩ := HFA.out w4 hS'
        clear hS'
        have HQ := hid' (HKID.out 1 k f _ _ _ _ w4 rfl hk HF.out (by have := HLO.out; have := HZ.out; simp only [Co.sizes] at this; omega) (by have := HLO.out; have := HZ.out; simp only [Co.sizes] at this; omega) HR4.out)
        rw [show ((1 : Nat) : Int) = 1 from rfl] at HQ
        go_wp2_with (first | (go_at_call 23; refine HQ.out.mono ?_; rintro e w5 ⟨⟨x, rfl⟩, hr5, k5⟩; have HP5 := hid' (And.intro hr5 k5); clear hr5 k5))
        refine bodyPost_ret (results_none rfl _ _ _) rfl ⟨⟨_, rfl⟩, ?_, HKP4.out.trans HP5.out.2⟩
        rw [e.out]
        exact HP5.out.1
  · by_cases hd : n < day
    · have e := hid' (show R = Dn.nothing by rw [← hRR.out, Dn.acq_30, if_pos (show n < (Dn.eyes F day).day from hd)])
      have g0 : decide (n < day) = true := decide_eq_true hd
      go_wp2_with fail
      refine bodyPost_ret (results_none rfl _ _ _) rfl ⟨⟨_, rfl⟩, ?_, HKP3.out⟩
      rw [e.out]
      exact ⟨_, _, by simpa only [Dn.nothing, List.append_nil] using HR3.out⟩
    · have g0 : decide (n < day) = false := decide_eq_false hd
      have HAC := hid' (show R = if (Dn.values (Dn.eyes F day) [q, k]).getD 0 none = some 1 then Dn.kidA (Dn.eyes F day) [q, k] 1 a f else Dn.waitR a f by rw [← hRR.out, Dn.acq_30, if_neg (show ¬ n < (Dn.eyes F day).day from hd)])
      have hob := Dn.obs_b ho
      obtain ⟨vq, hrq, hvq⟩ := HK.out 0 q rfl
      obtain ⟨b, off, sx, sy, sz, su, rfl, rfl, hrc⟩ := row_cells hrq
      have HRC := hid' (fun W (h : Below w1.heap.size w1 W) => RowC.zero (W := W) (b := b) (o := off) (x := sx) (y := sy) (z := sz) (u := su) (by
        have hb := (HR1.out.below h).bel
        obtain ⟨b', off', x', y', z', u', e1, hl, e2, q0, q1, q2, q3⟩ := hrq.keep (W' := W) (ok' := ok) (fun b h hl => ⟨h, hb.block b (Nat.lt_of_lt_of_le hl HE.out.rb)⟩)
        cases e1
        cases e2
        exact ⟨q0, q1, q2, q3⟩))
      have HQV := hid' (fun W (h : Below w1.heap.size w1 W) => HVAL.out 0 q _ W rfl hob hvq (HR1.out.below h).bel)
      obtain ⟨X, hX⟩ : ∃ X, Hid (Dn.value (Dn.eyes F day) q = X) := ⟨_, hid' rfl⟩
      have HVT := hid' (fun (x : UInt8) v => Dn.value_ty HEO.out q x v)
      rw [hX.out] at HQV
      clear hrq hvq hrc
      go_upto_region 26 with (fail)
      clear c0 c1 d0 d1 d2 d3
      have HVX := hid' (show (Dn.values (Dn.eyes F day) [q, k]).getD 0 none = X by rw [Dn.values_at (k := q) rfl, hX.out])
      rw [HVX.out] at HAC
      cases X with
      | none =>
        rw [optOut_none] at HQV
        have e := hid' (show R = Dn.waitR a f by rw [HAC.out, if_neg (by simp)])
        refine wp_region_keep (Below w1.heap.size w1) (by kernel_rfl) (by kernel_rfl) HS3.out.drew ?_
        repeat (first
          | (refine wpKeep_skip ?_ ?_
             · rfl
             simp only [Act.put, List.setIfInBounds_toArray, List.set_cons_zero, List.set_cons_succ])
          | (apply wpKeep_call 30 #[.agg #[.int .i64 day, vf], .agg #[sx, sy, sz, su]]
             · rfl
             · (intro w hSw; obtain ⟨c0, c1, d0, d1, d2, d3⟩ := HFA.out w hSw; obtain ⟨r0, r1, r2, r3⟩ := HRC.out w hSw; go_simp; done)
             · (intro w hSw; refine (HQV.out _ hSw).mono ?_; rintro e w'' ⟨rfl, b⟩; exact ⟨rfl, hSw.trans (b.mono hSw.size)⟩)
             simp only [Act.put, List.setIfInBounds_toArray, List.set_cons_zero, List.set_cons_succ])
          | (apply wpKeep_val
             · rfl
             · (intro w hSw; obtain ⟨c0, c1, d0, d1, d2, d3⟩ := HFA.out w hSw; obtain ⟨r0, r1, r2, r3⟩ := HRC.out w hSw; first | (go_simp; done) | (go_simp; with_reducible rfl))
             simp only [Act.put, List.setIfInBounds_toArray, List.set_cons_zero, List.set_cons_succ]))
        refine wpKeep_nil ?_
        intro w4 hS'
        have HS4 := hid' hS'
        have HR4 := hid' (HR1.out.below hS')
        have HKP4 := hid' (HKP.out.trans (KpR.below (mb := rb) hS' (Nat.le_of_lt HR1.out.lt)))
        obtain ⟨c0, c1, d0, d1, d2, d3⟩ := HFA.out w4 hS'
        clear hS'
        go_upto_region 29 with (fail)
        have r2 := bcells HR4.out.box 2 _ rfl
        have HLB := hid' (show L.length + 1 ≤ 100000000 by have := HLO.out; omega)
        clear c0 c1 d0 d1 d2 d3
        go_wp2_with (refine append_live rfl _ _ rfl (rb + 1) _ _ rfl HR4.out.ls (a, f) rfl HLB.out HR4.out.lt (fun v' w5 h5 h6 => ?_); refine halt' ?_)
        refine hid' ?_
        have hk5 := (h6.block rb HR4.out.lt (fun e => own_lt HR4.out.ls (Nat.lt_succ_self _) e.symm)).trans HR4.out.box
        have hkc := bcells hk5 2 _ rfl
        have hkf := frozen_of (o := 2) hk5
        have HL5 := hid' (Runs.pushLive HR4.out (y := (a, f)) h5 h6)
        obtain ⟨hp, hc', rfl⟩ := row_form h5
        simp only [List.length_append, List.length_cons, List.length_nil, Nat.zero_add] at HL5
        clear h5 h6 r2 hk5
        go_wp2_with fail
        refine bodyPost_end (results_none rfl _ _ _) rfl ⟨⟨_, rfl⟩, ?_, HKP4.out.trans HL5.out.2⟩
        rw [e.out]
        exact ⟨_, _, by simpa only [Dn.waitR, List.append_nil] using HL5.out.1⟩
      | some x =>
        rw [optOut_some] at HQV
        by_cases hx0 : x = 1
        · have e := hid' (show R = Dn.kidA (Dn.eyes F day) [q, k] 1 a f by rw [HAC.out, if_pos (by rw [hx0])])
          have g1 : (x == 1) = true := by rw [hx0]; rfl
          clear hx0
          refine wp_region_keep (Below w1.heap.size w1) (by kernel_rfl) (by kernel_rfl) HS3.out.drew ?_
          repeat (first
            | (refine wpKeep_skip ?_ ?_
               · rfl
               simp only [Act.put, List.setIfInBounds_toArray, List.set_cons_zero, List.set_cons_succ])
            | (apply wpKeep_call 30 #[.agg #[.int .i64 day, vf], .agg #[sx, sy, sz, su]]
               · rfl
               · (intro w hSw; obtain ⟨c0, c1, d0, d1, d2, d3⟩ := HFA.out w hSw; obtain ⟨r0, r1, r2, r3⟩ := HRC.out w hSw; go_simp; done)
               · (intro w hSw; refine (HQV.out _ hSw).mono ?_; rintro e w'' ⟨rfl, b⟩; exact ⟨rfl, hSw.trans (b.mono hSw.size)⟩)
               simp only [Act.put, List.setIfInBounds_toArray, List.set_cons_zero, List.set_cons_succ])
            | (apply wpKeep_val
               · rfl
               · (intro w hSw; obtain ⟨c0, c1, d0, d1, d2, d3⟩ := HFA.out w hSw; obtain ⟨r0, r1, r2, r3⟩ := HRC.out w hSw; first | (go_simp; done) | (go_simp; with_reducible rfl))
               simp only [Act.put, List.setIfInBounds_toArray, List.set_cons_zero, List.set_cons_succ]))
          refine wpKeep_nil ?_
          intro w4 hS'
          have HS4 := hid' hS'
          have HR4 := hid' (HR1.out.below hS')
          have HKP4 := hid' (HKP.out.trans (KpR.below (mb := rb) hS' (Nat.le_of_lt HR1.out.lt)))
          obtain ⟨c0, c1, d0, d1, d2, d3⟩ := HFA.out w4 hS'
          clear hS'
          have HQ := hid' (HKID.out 1 k f _ _ _ _ w4 rfl hk HF.out (by have := HLO.out; have := HZ.out; simp only [Co.sizes] at this; omega) (by have := HLO.out; have := HZ.out; simp only [Co.sizes] at this; omega) HR4.out)
          rw [show ((1 : Nat) : Int) = 1 from rfl] at HQ
          go_wp2_with (first | (go_at_call 23; refine HQ.out.mono ?_; rintro e w5 ⟨⟨x, rfl⟩, hr5, k5⟩; have HP5 := hid' (And.intro hr5 k5); clear hr5 k5))
          refine bodyPost_ret (results_none rfl _ _ _) rfl ⟨⟨_, rfl⟩, ?_, HKP4.out.trans HP5.out.2⟩
          rw [e.out]
          exact HP5.out.1
        · have e := hid' (show R = Dn.waitR a f by rw [HAC.out, if_neg (by simpa using hx0)])
          have g1 : (x == 1) = false := by rw [beq_eq_false_iff_ne]; exact hx0
          clear hx0
          refine wp_region_keep (Below w1.heap.size w1) (by kernel_rfl) (by kernel_rfl) HS3.out.drew ?_
          repeat (first
            | (refine wpKeep_skip ?_ ?_
               · rfl
               simp only [Act.put, List.setIfInBounds_toArray, List.set_cons_zero, List.set_cons_succ])
            | (apply wpKeep_call 30 #[.agg #[.int .i64 day, vf], .agg #[sx, sy, sz, su]]
               · rfl
               · (intro w hSw; obtain ⟨c0, c1, d0, d1, d2, d3⟩ := HFA.out w hSw; obtain ⟨r0, r1, r2, r3⟩ := HRC.out w hSw; go_simp; done)
               · (intro w hSw; refine (HQV.out _ hSw).mono ?_; rintro e w'' ⟨rfl, b⟩; exact ⟨rfl, hSw.trans (b.mono hSw.size)⟩)
               simp only [Act.put, List.setIfInBounds_toArray, List.set_cons_zero, List.set_cons_succ])
            | (apply wpKeep_val
               · rfl
               · (intro w hSw; obtain ⟨c0, c1, d0, d1, d2, d3⟩ := HFA.out w hSw; obtain ⟨r0, r1, r2, r3⟩ := HRC.out w hSw; first | (go_simp; done) | (go_simp; with_reducible rfl))
               simp only [Act.put, List.setIfInBounds_toArray, List.set_cons_zero, List.set_cons_succ]))
          refine wpKeep_nil ?_
          intro w4 hS'
          have HS4 := hid' hS'
          have HR4 := hid' (HR1.out.below hS')
          have HKP4 := hid' (HKP.out.trans (KpR.below (mb := rb) hS' (Nat.le_of_lt HR1.out.lt)))
          obtain ⟨c0, c1, d0, d1, d2, d3⟩ := HFA.out w4 hS'
          clear hS'
          go_upto_region 29 with (fail)
          have r2 := bcells HR4.out.box 2 _ rfl
          have HLB := hid' (show L.length + 1 ≤ 100000000 by have := HLO.out; omega)
          clear c0 c1 d0 d1 d2 d3
          go_wp2_with (refine append_live rfl _ _ rfl (rb + 1) _ _ rfl HR4.out.ls (a, f) rfl HLB.out HR4.out.lt (fun v' w5 h5 h6 => ?_); refine halt' ?_)
          refine hid' ?_
          have hk5 := (h6.block rb HR4.out.lt (fun e => own_lt HR4.out.ls (Nat.lt_succ_self _) e.symm)).trans HR4.out.box
          have hkc := bcells hk5 2 _ rfl
          have hkf := frozen_of (o := 2) hk5
          have HL5 := hid' (Runs.pushLive HR4.out (y := (a, f)) h5 h6)
          obtain ⟨hp, hc', rfl⟩ := row_form h5
          simp only [List.length_append, List.length_cons, List.length_nil, Nat.zero_add] at HL5
          clear h5 h6 r2 hk5
          go_wp2_with fail
          refine bodyPost_end (results_none rfl _ _ _) rfl ⟨⟨_, rfl⟩, ?_, HKP4.out.trans HL5.out.2⟩
          rw [e.out]
          exact ⟨_, _, by simpa only [Dn.waitR, List.append_nil] using HL5.out.1⟩
end Go.Proofs.YtcpobnknmegkmaaDoor
