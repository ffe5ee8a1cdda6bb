/- Proved: lemmas and contracts of the functions that the law reaches, part 4 of 4: DnLater. Conditions: as each states. -/
import Derived.Test.YtcpobnknmegkmaaDoorDnl1
import Derived.Test.YtcpobnknmegkmaaDoorDnl3
namespace Go.Proofs.YtcpobnknmegkmaaDoor
open Go.RowKit
open Rw
set_option linter.unusedVariables false
set_option linter.unusedSimpArgs false
set_option maxRecDepth 100000
/-- The boxes of the two arguments that the law's body loads. -/
def Boxes (k : Nat) (op n : Int) (s : ByteArray) (p : Option Addr) (ln c : Nat) (lab : ByteArray) (wh : Int) (W : World) : Prop :=
  (W.cell? ⟨k, 0, none⟩ = some (.int .i64 op) ∧ W.cell? ⟨k, 1, none⟩ = some (.int .i64 n) ∧ W.cell? ⟨k, 2, none⟩ = some (.string s) ∧ W.cell? ⟨k, 3, none⟩ = some (.slice p ln c)) ∧ W.cell? ⟨k + 1, 0, none⟩ = some (.string lab) ∧ W.cell? ⟨k + 1, 1, none⟩ = some (.int .i64 wh)
theorem Boxes.below {k : Nat} {op n : Int} {s : ByteArray} {p : Option Addr} {ln c : Nat} {lab : ByteArray} {wh : Int} {W W' : World} (h : Boxes k op n s p ln c lab wh W) (b : Below W.heap.size W W') : Boxes k op n s p ln c lab wh W' :=
  ⟨⟨keep_all b _ _ h.1.1, keep_all b _ _ h.1.2.1, keep_all b _ _ h.1.2.2.1, keep_all b _ _ h.1.2.2.2⟩, keep_all b _ _ h.2.1, keep_all b _ _ h.2.2⟩
set_option maxHeartbeats 16000000 in
theorem law_later (t : Co.T) (v vl0 vf : Value) (l : List (Int × Int)) (day : Int) (F : List Fd.Feed) (lab : ByteArray) (wh : Int) (w : World) (hv : CoreIn (fun _ => True) w t v) (hsz : t.size ≤ 1048576) (hl : StampsAt w vl0 l) (hF : FeedsAt w vf F) (hn : F.length ≤ 1048576 ∧ ∀ f ∈ F, f.2.length ≤ 1048576) (hlab : lab.size ≤ 2000000) :
    Calls Tryd.prog 4 #[v, vl0, .int .i64 day, vf, .agg #[.string lab, .int .i64 wh]] w (True1 w) := by
  obtain ⟨p, c, hve, -⟩ := hv.open
  obtain ⟨op, tn, s, ln, rfl⟩ : ∃ op n s ln, v = .agg #[.int .i64 op, .int .i64 n, .string s, .slice p ln c] := ⟨_, _, _, _, hve⟩
  clear hve
  have z1 : ∀ (W : World) (o : Obj) (k : Nat) (x : Obj), W.heap[k]? = some x → (W.alloc o).heap[k]? = some x := fun W o k x h => (((Below.refl W.heap.size W).alloc (Nat.le_refl _) o).block k (lt_of_block h)).trans h
  have HB0 := hid' (((Below.refl w.heap.size w).alloc (Nat.le_refl _) (.cells #[.int .i64 op, .int .i64 tn, .string s, .slice p ln c] 24)).alloc (by simp) (.cells #[.string lab, .int .i64 wh] 27))
  have HX0 := hid' (show Boxes w.heap.size op tn s p ln c lab wh ((w.alloc (.cells #[.int .i64 op, .int .i64 tn, .string s, .slice p ln c] 24)).alloc (.cells #[.string lab, .int .i64 wh] 27)) from by
    have h1 := heap_cells4 (z1 _ (.cells #[.string lab, .int .i64 wh] 27) _ _ (heap_alloc_new w (.cells #[.int .i64 op, .int .i64 tn, .string s, .slice p ln c] 24)))
    have h2 := heap_alloc_new (w.alloc (.cells #[.int .i64 op, .int .i64 tn, .string s, .slice p ln c] 24)) (.cells #[.string lab, .int .i64 wh] 27)
    rw [World.size_alloc] at h2
    exact ⟨h1, bcells h2 0 _ rfl, bcells h2 1 _ rfl⟩)
  have HV := hid' hv
  have HL := hid' hl
  have HF := hid' hF
  have HN := hid' hn
  have HSZ := hid' (Nat.le_trans hsz (by decide : 1048576 ≤ 2000000))
  clear hv hsz z1 hn hl hF
  have HSH := hid' (fun W => shown15_any W)
  have HG1 := hid' (fun W (h : Below w.heap.size w W) => (dnbegin_any t day F (fun _ => True) _ _ W (HV.out.under h) HSZ.out (HF.out.below h)).mono fun e w' h => DnPost.lists h (Dn.begin_short t day F))
  have HG2 := hid' (fun W v' (h : Below w.heap.size w W) (hF : FeedsAt W v' (Fd.toldF F day)) => (dnbegin_any t day (Fd.toldF F day) (fun _ => True) _ _ W (HV.out.under h) HSZ.out hF).mono fun e w' h => DnPost.lists h (Dn.begin_short t day (Fd.toldF F day)))
  have HS1 := hid' (fun W (h : Below w.heap.size w W) => (dnstep_any t l day F lab wh (fun _ => True) _ _ _ W (HV.out.under h) HSZ.out (HL.out.below h) (HF.out.below h) hlab).mono fun e w' h => DnPost.lists h (Dn.step_short t l day F lab wh))
  have HS2 := hid' (fun W v' (h : Below w.heap.size w W) (hF : FeedsAt W v' (Fd.toldF F day)) => (dnstep_any t l day (Fd.toldF F day) lab wh (fun _ => True) _ _ _ W (HV.out.under h) HSZ.out (HL.out.below h) hF hlab).mono fun e w' h => DnPost.lists h (Dn.step_short t l day (Fd.toldF F day) lab wh))
  have HTD := hid' (fun W (h : Below w.heap.size w W) => told_any F day vf W (HF.out.below h) HN.out)
  have HRF := hid' (fun W (h : Below w.heap.size w W) => refRightFeeds_any _ F W (HF.out.below h))
  have HBT := hid' (fun h : Fd.Ok F => (Dn.begin_told h : Dn.beginR t day (Fd.toldF F day) = Dn.beginR t day F))
  have HST := hid' (fun h : Fd.Ok F => (Dn.step_told h : Dn.stepR t l day (Fd.toldF F day) lab wh = Dn.stepR t l day F lab wh))
  have HBW := hid' (fun h : ¬ Fd.Ok F => (Dn.begin_wrong (fun hh => h hh.2) : Dn.beginR t day F = none))
  generalize Dn.beginR t day (Fd.toldF F day) = r2 at HG2 HBT
  generalize Dn.beginR t day F = r1 at HG1 HBT HBW
  generalize Dn.stepR t l day (Fd.toldF F day) lab wh = q2 at HS2 HST
  generalize Dn.stepR t l day F lab wh = q1 at HS1 HST
  clear hlab HL HV HN HSZ
  obtain ⟨fp, fc, rfl, -, -⟩ := id HF.out
  generalize (.slice fp F.length fc : Value) = vf at *
  go_enter Tryd.func4, Tryd.ntmps4
  go_upto_region 1 with (fail)
  generalize World.alloc _ _ = w1 at *
  go_upto_region 2 with (first | (go_at_call 7; refine (HSH.out _).mono ?_; rintro e w2 ⟨rfl, b2⟩; have HB2 := hid' (HB0.out.trans (b2.mono HB0.out.size)); have HX2 := hid' (HX0.out.below b2); clear b2))
  obtain ⟨⟨c0, c1, c2, c3⟩, -, -⟩ := HX2.out
  go_upto_region 3 with (first | (go_at_call 8; refine (HG1.out _ HB2.out).mono ?_; rintro e w3 ⟨b3, vl1, vo1, rfl, hl1, ho1⟩; have HB3 := hid' (HB2.out.trans (b3.mono HB2.out.size)); have HX3 := hid' (HX2.out.below b3); have HL1 := hid' hl1; have HO1 := hid' ho1; clear b3 hl1 ho1))
  clear c0 c1 c2 c3 HX0
  go_wp2_with fail
  have HDw3 := hid' (show Below w.heap.size w w3.drew from HB3.out.trans ((Below.refl _ _).drew.mono HB3.out.size))
  have HXDw3 := hid' (show Boxes w.heap.size op tn s p ln c lab wh w3.drew from HX3.out.below (Below.refl _ _).drew)
  refine wp_region_chain (Boxes w.heap.size op tn s p ln c lab wh) 13 [false, false, false, false, true, true, false, false, false, false, false, false, false] (by kernel_rfl) (by kernel_rfl) (by kernel_rfl) HXDw3.out ?_
  apply wpChain_quiet
  · rfl
  · intro W hW
    obtain ⟨⟨h0, h1, h2, h3⟩, h4, h5⟩ := hW
    first | (go_simp; done) | (go_simp; with_reducible rfl)
  simp only [Act.put, List.setIfInBounds_toArray, List.set_cons_zero, List.set_cons_succ]
  apply wpChain_quiet
  · rfl
  · intro W hW
    obtain ⟨⟨h0, h1, h2, h3⟩, h4, h5⟩ := hW
    first | (go_simp; done) | (go_simp; with_reducible rfl)
  simp only [Act.put, List.setIfInBounds_toArray, List.set_cons_zero, List.set_cons_succ]
  apply wpChain_quiet
  · rfl
  · intro W hW
    obtain ⟨⟨h0, h1, h2, h3⟩, h4, h5⟩ := hW
    first | (go_simp; done) | (go_simp; with_reducible rfl)
  simp only [Act.put, List.setIfInBounds_toArray, List.set_cons_zero, List.set_cons_succ]
  apply wpChain_quiet
  · rfl
  · intro W hW
    obtain ⟨⟨h0, h1, h2, h3⟩, h4, h5⟩ := hW
    first | (go_simp; done) | (go_simp; with_reducible rfl)
  simp only [Act.put, List.setIfInBounds_toArray, List.set_cons_zero, List.set_cons_succ]
  refine wpChain_call 12 #[vf, .int .i64 day] (fun v w' => Below w3.drew.heap.size w3.drew w' ∧ FeedsAt w' v (Fd.toldF F day)) ?_ ?_ ?_ ?_
  · rfl
  · go_simp
  · exact (HTD.out _ HDw3.out).mono fun e w' ⟨h1, v, h2, h3⟩ => ⟨v, h2, h1, h3⟩
  rintro tvw4 w4 ⟨bw4, tfw4⟩
  refine ⟨.inr (HXDw3.out.below bw4), ?_⟩
  simp only [Act.put, List.setIfInBounds_toArray, List.set_cons_zero, List.set_cons_succ]
  have HBw4 := hid' (HDw3.out.trans (bw4.mono HDw3.out.size))
  have HXw4 := hid' (HXDw3.out.below bw4)
  have HTw4 := hid' tfw4
  have HWw3 := hid' ((Below.refl w3.heap.size w3).drew.trans bw4)
  clear bw4 tfw4
  refine wpChain_call 8 #[.agg #[.int .i64 op, .int .i64 tn, .string s, .slice p ln c], .int .i64 day, tvw4] (fun v w' => Below w4.heap.size w4 w' ∧ ∃ vl vo, v = .tuple #[vl, vo, .int .i64 (Dn.errOf r2)] ∧ LivesSeen w' vl (r2.getD Dn.nothing).1 ∧ TransSeen w' vo day (r2.getD Dn.nothing).2) ?_ ?_ ?_ ?_
  · rfl
  · go_simp
  · exact (HG2.out _ _ HBw4.out HTw4.out).mono fun e w' ⟨h1, vl, vo, h2, h3, h4⟩ => ⟨_, h2, h1, vl, vo, rfl, h3, h4⟩
  rintro _ w5 ⟨bw5, vl2, vo2, rfl, hl2, ho2⟩
  refine ⟨.inr (HXw4.out.below bw5), ?_⟩
  simp only [Act.put, List.setIfInBounds_toArray, List.set_cons_zero, List.set_cons_succ]
  have HBw5 := hid' (HBw4.out.trans (bw5.mono HBw4.out.size))
  have HXw5 := hid' (HXw4.out.below bw5)
  have HWw5 := hid' (HWw3.out.trans (bw5.mono HWw3.out.size))
  have HL2 := hid' hl2
  have HO2 := hid' ho2
  clear bw5 hl2 ho2 HTw4 HXw4 HXDw3 HDw3 HBw4 HWw3
  apply wpChain_quiet
  · rfl
  · intro W hW
    obtain ⟨⟨h0, h1, h2, h3⟩, h4, h5⟩ := hW
    first | (go_simp; done) | (go_simp; with_reducible rfl)
  simp only [Act.put, List.setIfInBounds_toArray, List.set_cons_zero, List.set_cons_succ]
  apply wpChain_quiet
  · rfl
  · intro W hW
    obtain ⟨⟨h0, h1, h2, h3⟩, h4, h5⟩ := hW
    first | (go_simp; done) | (go_simp; with_reducible rfl)
  simp only [Act.put, List.setIfInBounds_toArray, List.set_cons_zero, List.set_cons_succ]
  apply wpChain_quiet
  · rfl
  · intro W hW
    obtain ⟨⟨h0, h1, h2, h3⟩, h4, h5⟩ := hW
    first | (go_simp; done) | (go_simp; with_reducible rfl)
  simp only [Act.put, List.setIfInBounds_toArray, List.set_cons_zero, List.set_cons_succ]
  apply wpChain_quiet
  · rfl
  · intro W hW
    obtain ⟨⟨h0, h1, h2, h3⟩, h4, h5⟩ := hW
    first | (go_simp; done) | (go_simp; with_reducible rfl)
  simp only [Act.put, List.setIfInBounds_toArray, List.set_cons_zero, List.set_cons_succ]
  apply wpChain_quiet
  · rfl
  · intro W hW
    obtain ⟨⟨h0, h1, h2, h3⟩, h4, h5⟩ := hW
    first | (go_simp; done) | (go_simp; with_reducible rfl)
  simp only [Act.put, List.setIfInBounds_toArray, List.set_cons_zero, List.set_cons_succ]
  apply wpChain_quiet
  · rfl
  · intro W hW
    obtain ⟨⟨h0, h1, h2, h3⟩, h4, h5⟩ := hW
    first | (go_simp; done) | (go_simp; with_reducible rfl)
  simp only [Act.put, List.setIfInBounds_toArray, List.set_cons_zero, List.set_cons_succ]
  apply wpChain_quiet
  · rfl
  · intro W hW
    obtain ⟨⟨h0, h1, h2, h3⟩, h4, h5⟩ := hW
    first | (go_simp; done) | (go_simp; with_reducible rfl)
  simp only [Act.put, List.setIfInBounds_toArray, List.set_cons_zero, List.set_cons_succ]
  refine wpChain_nil ?_
  go_upto_region 5 with (first | (go_at_call 13; refine (HRF.out _ HBw5.out).mono ?_; rintro e w6 ⟨rfl, b6⟩))
  have HB6 := hid' (HBw5.out.trans (b6.mono HBw5.out.size))
  have HX6 := hid' (HXw5.out.below b6)
  have HL6 := hid' (HL1.out.below (HWw5.out.trans (b6.mono HWw5.out.size)))
  have HO6 := hid' (HO1.out.below (HWw5.out.trans (b6.mono HWw5.out.size)))
  have HM6 := hid' (HL2.out.below b6)
  have HP6 := hid' (HO2.out.below b6)
  clear b6 HL1 HO1 HL2 HO2 HXw5 HX3 HX2 HWw5
  by_cases hok : Fd.Ok F
  rotate_left
  · obtain rfl := HBW.out hok
    rw [Fd.right_no hok]
    clear hok
    rw [Dn.errOf_none']
    go_wp2_with fail
    go_ret
    exact ⟨rfl, HB6.out⟩
  obtain rfl := HBT.out hok
  obtain rfl := HST.out hok
  rw [Fd.right_yes hok]
  clear hok HBT HST HBW HG1 HG2 HRF
  obtain ⟨⟨c0, c1, c2, c3⟩, c4, c5⟩ := HX6.out
  go_upto_region 8 with (first | (go_at_call 9; refine (HS1.out _ HB6.out).mono ?_; rintro e w7 ⟨b7, vl3, vo3, rfl, hl3, ho3⟩; have HB7 := hid' (HB6.out.trans (b7.mono HB6.out.size)); have HX7 := hid' (HX6.out.below b7); have HL3 := hid' hl3; have HO3 := hid' ho3; have HW7 := hid' b7; clear b7 hl3 ho3))
  clear c0 c1 c2 c3 c4 c5
  go_wp2_with fail
  have HDw7 := hid' (show Below w.heap.size w w7.drew from HB7.out.trans ((Below.refl _ _).drew.mono HB7.out.size))
  have HXDw7 := hid' (show Boxes w.heap.size op tn s p ln c lab wh w7.drew from HX7.out.below (Below.refl _ _).drew)
  refine wp_region_ord (Boxes w.heap.size op tn s p ln c lab wh) [(0, false), (1, false), (2, false), (3, false), (4, false), (6, false), (5, true), (7, true), (8, false), (9, false), (10, false), (11, false), (12, false), (13, false), (14, false)] (by kernel_rfl) (by kernel_rfl) (by kernel_rfl) HXDw7.out ?_
  apply wpOrd_quiet (ho := rfl)
  · rfl
  · intro W hW
    obtain ⟨⟨h0, h1, h2, h3⟩, h4, h5⟩ := hW
    first | (go_simp; done) | (go_simp; with_reducible rfl)
  simp only [Act.put, List.setIfInBounds_toArray, List.set_cons_zero, List.set_cons_succ]
  apply wpOrd_quiet (ho := rfl)
  · rfl
  · intro W hW
    obtain ⟨⟨h0, h1, h2, h3⟩, h4, h5⟩ := hW
    first | (go_simp; done) | (go_simp; with_reducible rfl)
  simp only [Act.put, List.setIfInBounds_toArray, List.set_cons_zero, List.set_cons_succ]
  apply wpOrd_quiet (ho := rfl)
  · rfl
  · intro W hW
    obtain ⟨⟨h0, h1, h2, h3⟩, h4, h5⟩ := hW
    first | (go_simp; done) | (go_simp; with_reducible rfl)
  simp only [Act.put, List.setIfInBounds_toArray, List.set_cons_zero, List.set_cons_succ]
  apply wpOrd_quiet (ho := rfl)
  · rfl
  · intro W hW
    obtain ⟨⟨h0, h1, h2, h3⟩, h4, h5⟩ := hW
    first | (go_simp; done) | (go_simp; with_reducible rfl)
  simp only [Act.put, List.setIfInBounds_toArray, List.set_cons_zero, List.set_cons_succ]
  apply wpOrd_quiet (ho := rfl)
  · rfl
  · intro W hW
    obtain ⟨⟨h0, h1, h2, h3⟩, h4, h5⟩ := hW
    first | (go_simp; done) | (go_simp; with_reducible rfl)
  simp only [Act.put, List.setIfInBounds_toArray, List.set_cons_zero, List.set_cons_succ]
  apply wpOrd_quiet (ho := rfl)
  · rfl
  · intro W hW
    obtain ⟨⟨h0, h1, h2, h3⟩, h4, h5⟩ := hW
    first | (go_simp; done) | (go_simp; with_reducible rfl)
  simp only [Act.put, List.setIfInBounds_toArray, List.set_cons_zero, List.set_cons_succ]
  refine wpOrd_call 12 #[vf, .int .i64 day] (fun v w' => Below w7.drew.heap.size w7.drew w' ∧ FeedsAt w' v (Fd.toldF F day)) rfl ?_ ?_ ?_ ?_
  · rfl
  · go_simp
  · exact (HTD.out _ HDw7.out).mono fun e w' ⟨h1, v, h2, h3⟩ => ⟨v, h2, h1, h3⟩
  rintro tvw8 w8 ⟨bw8, tfw8⟩
  refine ⟨HXDw7.out.below bw8, ?_⟩
  simp only [Act.put, List.setIfInBounds_toArray, List.set_cons_zero, List.set_cons_succ]
  have HBw8 := hid' (HDw7.out.trans (bw8.mono HDw7.out.size))
  have HXw8 := hid' (HXDw7.out.below bw8)
  have HTw8 := hid' tfw8
  have HWw7 := hid' ((Below.refl w7.heap.size w7).drew.trans bw8)
  clear bw8 tfw8
  refine wpOrd_call 9 #[.agg #[.int .i64 op, .int .i64 tn, .string s, .slice p ln c], vl0, .int .i64 day, tvw8, .agg #[.string lab, .int .i64 wh]] (fun v w' => Below w8.heap.size w8 w' ∧ ∃ vl vo, v = .tuple #[vl, vo, .int .i64 (Dn.errOf q2)] ∧ LivesSeen w' vl (q2.getD Dn.nothing).1 ∧ TransSeen w' vo day (q2.getD Dn.nothing).2) rfl ?_ ?_ ?_ ?_
  · rfl
  · go_simp
  · exact (HS2.out _ _ HBw8.out HTw8.out).mono fun e w' ⟨h1, vl, vo, h2, h3, h4⟩ => ⟨_, h2, h1, vl, vo, rfl, h3, h4⟩
  rintro _ w9 ⟨bw9, vl4, vo4, rfl, hl4, ho4⟩
  refine ⟨HXw8.out.below bw9, ?_⟩
  simp only [Act.put, List.setIfInBounds_toArray, List.set_cons_zero, List.set_cons_succ]
  have HBw9 := hid' (HBw8.out.trans (bw9.mono HBw8.out.size))
  have HXw9 := hid' (HXw8.out.below bw9)
  have HWw9 := hid' (HWw7.out.trans (bw9.mono HWw7.out.size))
  have HL4 := hid' hl4
  have HO4 := hid' ho4
  clear bw9 hl4 ho4 HTw8 HXw8 HXDw7 HDw7 HBw8 HWw7
  apply wpOrd_quiet (ho := rfl)
  · rfl
  · intro W hW
    obtain ⟨⟨h0, h1, h2, h3⟩, h4, h5⟩ := hW
    first | (go_simp; done) | (go_simp; with_reducible rfl)
  simp only [Act.put, List.setIfInBounds_toArray, List.set_cons_zero, List.set_cons_succ]
  apply wpOrd_quiet (ho := rfl)
  · rfl
  · intro W hW
    obtain ⟨⟨h0, h1, h2, h3⟩, h4, h5⟩ := hW
    first | (go_simp; done) | (go_simp; with_reducible rfl)
  simp only [Act.put, List.setIfInBounds_toArray, List.set_cons_zero, List.set_cons_succ]
  apply wpOrd_quiet (ho := rfl)
  · rfl
  · intro W hW
    obtain ⟨⟨h0, h1, h2, h3⟩, h4, h5⟩ := hW
    first | (go_simp; done) | (go_simp; with_reducible rfl)
  simp only [Act.put, List.setIfInBounds_toArray, List.set_cons_zero, List.set_cons_succ]
  apply wpOrd_quiet (ho := rfl)
  · rfl
  · intro W hW
    obtain ⟨⟨h0, h1, h2, h3⟩, h4, h5⟩ := hW
    first | (go_simp; done) | (go_simp; with_reducible rfl)
  simp only [Act.put, List.setIfInBounds_toArray, List.set_cons_zero, List.set_cons_succ]
  apply wpOrd_quiet (ho := rfl)
  · rfl
  · intro W hW
    obtain ⟨⟨h0, h1, h2, h3⟩, h4, h5⟩ := hW
    first | (go_simp; done) | (go_simp; with_reducible rfl)
  simp only [Act.put, List.setIfInBounds_toArray, List.set_cons_zero, List.set_cons_succ]
  apply wpOrd_quiet (ho := rfl)
  · rfl
  · intro W hW
    obtain ⟨⟨h0, h1, h2, h3⟩, h4, h5⟩ := hW
    first | (go_simp; done) | (go_simp; with_reducible rfl)
  simp only [Act.put, List.setIfInBounds_toArray, List.set_cons_zero, List.set_cons_succ]
  apply wpOrd_quiet (ho := rfl)
  · rfl
  · intro W hW
    obtain ⟨⟨h0, h1, h2, h3⟩, h4, h5⟩ := hW
    first | (go_simp; done) | (go_simp; with_reducible rfl)
  simp only [Act.put, List.setIfInBounds_toArray, List.set_cons_zero, List.set_cons_succ]
  refine wpOrd_nil ?_
  have HWW := hid' (HW7.out.trans (HWw9.out.mono HW7.out.size))
  have g1 : (Dn.errOf r2 == Dn.errOf r2) = true := by simp
  have g2 : (Dn.errOf q2 == Dn.errOf q2) = true := by simp
  have HQ1 := hid' (fun W (h : Below w9.heap.size w9 W) => sameLives_yes _ _ _ W ((HL6.out.below HWW.out).below h) ((HM6.out.below HWW.out).below h))
  have HQ2 := hid' (fun W (h : Below w9.heap.size w9 W) => sameTrans_yes _ _ day _ W ((HO6.out.below HWW.out).below h) ((HP6.out.below HWW.out).below h))
  have HQ3 := hid' (fun W (h : Below w9.heap.size w9 W) => sameLives_yes _ _ _ W ((HL3.out.below HWw9.out).below h) (HL4.out.below h))
  have HQ4 := hid' (fun W (h : Below w9.heap.size w9 W) => sameTrans_yes _ _ day _ W ((HO3.out.below HWw9.out).below h) (HO4.out.below h))
  have HZ := hid' (Below.refl w9.heap.size w9)
  generalize Dn.errOf r2 = e1 at g1 ⊢
  generalize Dn.errOf q2 = e2 at g2 ⊢
  clear HL6 HM6 HO6 HP6 HL3 HL4 HO3 HO4 HXw9 HS1 HS2 HTD
  go_upto_region 10 with (first
    | (go_at_call 10; refine (HQ1.out _ HZ.out).mono ?_; rintro e wa ⟨rfl, ba⟩; have HZA := hid' (Below.more HZ.out ba); clear ba HQ1)
    | (go_at_call 14; refine (HQ2.out _ HZA.out).mono ?_; rintro e wb ⟨rfl, bb⟩; have HZB := hid' (Below.more HZA.out bb); clear bb HQ2)
    | (go_at_call 10; refine (HQ3.out _ HZB.out).mono ?_; rintro e wc ⟨rfl, bc⟩; have HZC := hid' (Below.more HZB.out bc); clear bc HQ3)
    | (go_at_call 14; refine (HQ4.out _ HZC.out).mono ?_; rintro e wd ⟨rfl, bd⟩; have HZD := hid' (Below.more HZC.out bd); clear bd HQ4))
  go_ret
  exact ⟨rfl, HBw9.out.trans (HZD.out.mono HBw9.out.size)⟩
end Go.Proofs.YtcpobnknmegkmaaDoor
