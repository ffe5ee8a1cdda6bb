/- Proved: lemmas and contracts of the functions that the law reaches, part 25 of 27: DnRight, DnBegin, DnTerms, DnRef. Conditions: as each states. -/
import Derived.Deep.DeepCutAuto
import Derived.IntWalk
import Derived.Maps.AppendAt
import Derived.Test.YtcpobnknmegkmaaDoorDnm5
import Derived.Test.YtcpobnknmegkmaaDoorDnm6
import Derived.Test.YtcpobnknmegkmaaDoorDnm9
import Derived.Test.YtcpobnknmegkmaaDoorDnm10
import Derived.Test.YtcpobnknmegkmaaDoorDnm12
import Derived.Test.YtcpobnknmegkmaaDoorDnm21
import Derived.Test.YtcpobnknmegkmaaDoorDnm23
import Derived.Test.YtcpobnknmegkmaaDoorDnm24
namespace Go.Proofs.YtcpobnknmegkmaaDoor
open Go.RowKit
open Gen
open Rw
set_option linter.unusedVariables false
set_option linter.unusedSimpArgs false
set_option maxRecDepth 100000
namespace Fd
def prevBad (F : List Feed) (i : Nat) (s : ByteArray) : Bool := match i with | 0 => false | j + 1 => !lt (at' F j).1 s
def headBad (F : List Feed) (i : Nat) (f : Feed) : Bool := !Led.isName f.1 || (prevBad F i f.1 || decide (4096 < f.2.length))
def prevLate (l : List (Int × Int)) (k : Nat) (d : Int) : Bool := match k with | 0 => false | j + 1 => decide (d ≤ (stampAt l j).1)
def stampBad (l : List (Int × Int)) (k : Nat) (s : Int × Int) : Bool := !(decide (0 ≤ s.1) && decide (s.1 ≤ 73048)) || (prevLate l k s.1 || !(s.2 == Num.clamp s.2))
theorem at_eq {F : List Feed} {j : Nat} {g : Feed} (h : F[j]? = some g) : at' F j = g := by unfold at'; rw [h]; rfl
theorem stampAt_eq {l : List (Int × Int)} {j : Nat} {g : Int × Int} (h : l[j]? = some g) : stampAt l j = g := by unfold stampAt; rw [h]; rfl
theorem stamp_good {l : List (Int × Int)} {k : Nat} {s : Int × Int} (h : stampBad l k s = false) : StampOk l k s := by
  unfold stampBad at h
  simp only [Bool.or_eq_false_iff, Bool.not_eq_false', Bool.and_eq_true, decide_eq_true_eq, beq_iff_eq] at h
  refine ⟨h.1, fun j hj u hu => ?_, h.2.2⟩
  subst hj
  have := h.2.1
  simp only [prevLate, decide_eq_false_iff_not] at this
  rw [stampAt_eq hu] at this
  omega
theorem stamp_bad {l : List (Int × Int)} {k : Nat} {s : Int × Int} (hk : k < l.length) (h : stampBad l k s = true) : ¬ StampOk l k s := by
  intro ok
  unfold stampBad at h
  have h1 := ok.day
  have h2 := ok.num
  rw [decide_eq_true h1.1, decide_eq_true h1.2, show (s.2 == Num.clamp s.2) = true by rw [beq_iff_eq]; exact h2] at h
  cases k with
  | zero => cases h
  | succ j =>
    simp only [prevLate, Bool.and_self, Bool.not_true, Bool.false_or, Bool.or_false, decide_eq_true_eq] at h
    have hj : l[j]? = some (stampAt l j) := by unfold stampAt; rw [List.getElem?_eq_getElem (by omega)]; rfl
    have := ok.up j rfl _ hj
    omega
theorem head_bad {F : List Feed} {i : Nat} {f : Feed} (hi : i < F.length) (h : headBad F i f = true) : ¬ FeedOk F i f := by
  intro ok
  unfold headBad at h
  have h1 := ok.len
  rw [ok.name, decide_eq_false (by omega : ¬ 4096 < f.2.length)] at h
  cases i with
  | zero => cases h
  | succ j =>
    have hj : F[j]? = some (at' F j) := by unfold at'; rw [List.getElem?_eq_getElem (by omega)]; rfl
    have := ok.rise j rfl _ hj
    simp only [prevBad, this] at h
    cases h
theorem feed_good {F : List Feed} {i : Nat} {f : Feed} (h : headBad F i f = false) (hs : ∀ k s, f.2[k]? = some s → StampOk f.2 k s) : FeedOk F i f := by
  unfold headBad at h
  simp only [Bool.or_eq_false_iff, Bool.not_eq_false', decide_eq_false_iff_not] at h
  refine ⟨h.1, fun j hj g hg => ?_, by omega, hs⟩
  subst hj
  have := h.2.1
  simp only [prevBad, Bool.not_eq_false'] at this
  rwa [at_eq hg] at this
end Fd
def dayOk (d : Int) : Bool := decide (0 ≤ d) && decide (d ≤ 73048)
set_option maxHeartbeats 8000000 in
theorem dnright_any (day : Int) (v : Value) (F : List Fd.Feed) (w : World) (h : FeedsAt w v F) : Calls Tryd.prog 17 #[.agg #[.int .i64 day, v]] w (Gives (.bool (dayOk day && Fd.right F)) w) := by
  obtain ⟨p, c, rfl, ⟨hl1, hl2⟩, hf⟩ := h
  have HF := hid' hf
  have hbig : (F.length : Int) ≤ 9223372036854775807 := by unfold maxLen at hl2; omega
  have HB := hid' ((Below.refl w.heap.size w).alloc (Nat.le_refl _) (.cells #[.int .i64 day, .slice p F.length c] 51))
  have HE := hid' (heap_alloc_new w (.cells #[.int .i64 day, .slice p F.length c] 51))
  have HDY := hid' (fun W => dnisDay_any day W)
  obtain ⟨D, hD⟩ : ∃ D, Hid ((decide (0 ≤ day) && decide (day ≤ 73048)) = D) := ⟨_, hid' rfl⟩
  obtain ⟨R, hR⟩ : ∃ R, Hid ((dayOk day && Fd.right F) = R) := ⟨_, hid' rfl⟩
  have hRD := hid' (show R = (D && Fd.right F) by rw [← hR.out, ← hD.out]; rfl)
  rw [hR.out]
  rw [hD.out] at HDY
  clear hf hl1 hl2 hD hR
  go_enter Tryd.func17, Tryd.ntmps17
  go_upto_region 1 with (fail)
  generalize World.alloc _ _ = w1 at *
  have e0 := bcells HE.out 0 _ rfl
  have e1 := bcells HE.out 1 _ rfl
  cases D with
  | false =>
    have hq := hid' (show R = false from hRD.out)
    go_wp2_with (first | (go_at_call 28; refine (HDY.out _).mono ?_; rintro e w2 ⟨rfl, hw2⟩; obtain rfl := hw2.symm))
    go_ret
    exact ⟨by rw [hq.out]; rfl, HB.out⟩
  | true =>
  by_cases h64 : 64 < F.length
  · have hq := hid' (show R = false by rw [hRD.out, Fd.right_no (F := F) (fun ok => by have := ok.1; omega)]; rfl)
    have h64i : decide ((64 : Int) < (F.length : Int)) = true := decide_eq_true (by omega)
    have h64n : decide (64 < F.length) = true := decide_eq_true h64
    go_wp2_with (first | (go_at_call 28; refine (HDY.out _).mono ?_; rintro e w2 ⟨rfl, hw2⟩; obtain rfl := hw2.symm))
    go_ret
    exact ⟨by rw [hq.out]; rfl, HB.out⟩
  · have h64i : decide ((64 : Int) < (F.length : Int)) = false := decide_eq_false (by omega)
    have h64n : decide (64 < F.length) = false := decide_eq_false h64
    have HLE := hid' (show F.length ≤ 64 by omega)
    have HRF := hid' (show R = Fd.right F by rw [hRD.out]; rfl)
    clear h64
    go_wp2_with (first | (go_at_call 28; refine (HDY.out _).mono ?_; rintro e w2 ⟨rfl, hw2⟩; obtain rfl := hw2.symm))
    clear h64i h64n e0 e1
    have HA0 := hid' (show ∀ j, j < 0 → ∀ f, F[j]? = some f → Fd.FeedOk F j f from fun j hj => by omega)
    go_loopw [23] (fun iv wr => ∃ i : Nat, iv = .int .i64 (i : Int) ∧ i ≤ F.length ∧ Hid (∀ j, j < i → ∀ f, F[j]? = some f → Fd.FeedOk F j f) ∧ Hid (Below w1.heap.size w1 wr)) (fun iv _ => F.length - (intOf iv).toNat)
    case atStart => exact ⟨0, rfl, Nat.zero_le _, HA0, Below.refl _ _⟩
    case round =>
      obtain ⟨i, rfl, hi, HA, HW⟩ := hrel
      have HE1 := hid' (box_below HW.out HE.out)
      have HW0 := hid' (HB.out.trans (HW.out.mono HB.out.size))
      by_cases hin : i < F.length
      · obtain ⟨x, hx⟩ : ∃ x, F[i]? = some x := ⟨_, List.getElem?_eq_getElem hin⟩
        obtain ⟨fb, fo, sv, rfl, hfb, ⟨x0, x1⟩, hst, hxs⟩ := HF.out i x hx
        replace x0 := keep_all HW0.out _ _ x0
        replace x1 := keep_all HW0.out _ _ x1
        have hst2 := hst.below HW0.out
        obtain ⟨sp, sc, rfl, ⟨hs1, hs2⟩, hss⟩ := hst2
        have HSS := hid' hss
        have j1 : (0 : Int) ≤ (i : Int) := by omega
        have j2 : (i : Int) < (F.length : Int) := by omega
        have wi : IntKind.i64.wrap ((i : Int) + 1) = (i : Int) + 1 := IntWalk.i64_in _ (by omega)
        have HX := hid' hx
        have HI := hid' hin
        have HSB := hid' hs2
        have hs1' := hs1
        clear hst hss hs1 hs2 hx hin hfb
        go_upto_region 6 with (fail)
        have BX := (Below.refl wr.heap.size wr).alloc (Nat.le_refl _) (.cells #[.string x.1, .slice sp x.2.length sc] 66)
        have hbx := heap_alloc_new wr (.cells #[.string x.1, .slice sp x.2.length sc] 66)
        have HB6 := hid' (Below.more HW.out BX)
        have HSS6 := hid' (show StampsAt _ (.slice sp x.2.length sc) x.2 from (show StampsAt wr (.slice sp x.2.length sc) x.2 from ⟨sp, sc, rfl, ⟨hs1', HSB.out⟩, HSS.out⟩).below BX)
        have HBX := hid' hbx
        clear BX hbx x0 x1 HSS
        generalize wr.alloc (.cells #[.string x.1, .slice sp x.2.length sc] 66) = w6 at *
        generalize wr.heap.size = xb at *
        have z0 := bcells HBX.out 0 _ rfl
        have z1 := bcells HBX.out 1 _ rfl
        have HXS := hid' hxs
        clear hxs
        have HT := hid' (fun W => type_feed x.1 W (by have := HXS.out; omega))
        have b7 := (Below.refl w6.heap.size w6).alloc (Nat.le_refl _) (.cells #[.int .i64 4, .int .i64 0, .string x.1, .slice none 0 0] 24)
        have n7 := heap_alloc_new w6 (.cells #[.int .i64 4, .int .i64 0, .string x.1, .slice none 0 0] 24)
        go_upto_region 7 with (fail)
        have HB7 := hid' b7
        have HN7 := hid' n7
        clear b7 n7 z0 z1
        generalize World.alloc w6 _ = w7 at *
        obtain ⟨q0, q1, q2, q3⟩ := heap_cells4 HN7.out
        obtain ⟨nm, hnm⟩ : ∃ nm, Hid (Led.isName x.1 = nm) := ⟨_, hid' rfl⟩
        rw [hnm.out] at HT
        go_upto_region 8 with (first | (go_at_call 26; refine (HT.out _).mono ?_; rintro e w8 ⟨rfl, b8⟩))
        have HB8 := hid' (HB7.out.trans (b8.mono HB7.out.size))
        clear b8 q0 q1 q2 q3
        obtain ⟨bad, hbad⟩ : ∃ bad, Hid (bad = Fd.headBad F i x) := ⟨_, rfl⟩
        have HE8 := hid' (box_below HB8.out (box_below HB6.out HE.out))
        have HBX8 := hid' (box_below HB8.out HBX.out)
        have HW8 := hid' (Below.more HB6.out HB8.out)
        have HSS8 := hid' (HSS6.out.below HB8.out)
        clear HBX HSS6 HB6 HB8 HB7 HN7 HE1
        go_cut [59] (fun v wx => v = .bool bad ∧ Hid (Below w8.heap.size w8 wx))
        case first =>
          have hb := hid' (show bad = (!Led.isName x.1 || (Fd.prevBad F i x.1 || decide (4096 < x.2.length))) from hbad.out)
          have hlenI : decide ((4096 : Int) < (x.2.length : Int)) = decide (4096 < x.2.length) := by
            by_cases h : 4096 < x.2.length
            · rw [decide_eq_true h, decide_eq_true (by omega)]
            · rw [decide_eq_false h, decide_eq_false (by omega)]
          rw [hnm.out] at hb
          generalize decide (4096 < x.2.length) = ln at *
          have hbx := (Below.refl w8.heap.size w8).drew
          have HK := hid' (fun (W : World) (b : Below w8.heap.size w8 W) => And.intro (bcells (box_below b HBX8.out) 0 _ rfl) (And.intro (bcells (box_below b HBX8.out) 1 _ rfl) (And.intro (bcells (box_below b HE8.out) 1 _ rfl) trivial)))
          cases nm with
          | false =>
            have hq := hid' (show bad = true from hb.out)
            clear hb
            refine wp_region_keep (fun w' => Below w8.heap.size w8 w') (by kernel_rfl) (by kernel_rfl) hbx ?_
            repeat (first
              | (refine wpKeep_skip ?_ ?_
                 · rfl
                 simp only [Act.put, List.setIfInBounds_toArray, List.set_cons_zero, List.set_cons_succ])
              | (apply wpKeep_val
                 · rfl
                 · (intro w hSw; obtain ⟨c0, c1, c2, c3⟩ := HK.out w hSw; first | (go_simp; done) | (go_simp; with_reducible rfl))
                 simp only [Act.put, List.setIfInBounds_toArray, List.set_cons_zero, List.set_cons_succ]))
            refine wpKeep_nil ?_
            intro w' hS'
            go_wp2_with fail
            go_meet
            exact ⟨by rw [hq.out] <;> rfl, hS'⟩
          | true =>
            cases i with
            | zero =>
              have hq := hid' (show bad = ln from hb.out)
              have g0 : decide ((0 : Int) < ((0 : Nat) : Int)) = false := rfl
              clear hb
              refine wp_region_keep (fun w' => Below w8.heap.size w8 w') (by kernel_rfl) (by kernel_rfl) hbx ?_
              repeat (first
                | (refine wpKeep_skip ?_ ?_
                   · rfl
                   simp only [Act.put, List.setIfInBounds_toArray, List.set_cons_zero, List.set_cons_succ])
                | (apply wpKeep_val
                   · rfl
                   · (intro w hSw; obtain ⟨c0, c1, c2, c3⟩ := HK.out w hSw; first | (go_simp; done) | (go_simp; with_reducible rfl))
                   simp only [Act.put, List.setIfInBounds_toArray, List.set_cons_zero, List.set_cons_succ]))
              refine wpKeep_nil ?_
              intro w' hS'
              go_wp2_with fail
              go_meet
              exact ⟨by rw [hq.out] <;> rfl, hS'⟩
            | succ j =>
              clear wi
              obtain ⟨y, hy⟩ : ∃ y, F[j]? = some y := ⟨_, List.getElem?_eq_getElem (by have := HI.out; omega)⟩
              obtain ⟨fb', fo', sv', e, -, ⟨y0, -⟩, -, -⟩ := HF.out j y hy
              obtain ⟨rfl, rfl⟩ : fb = fb' ∧ fo = fo' := by simpa using e
              have HKY := hid' (fun (W : World) (b : Below w8.heap.size w8 W) => keep_all (Below.more (HB.out.trans (HW8.out.mono HB.out.size)) b) _ _ y0)
              have hpv : Hid (Fd.prevBad F (j + 1) x.1 = !Op.bytesLess y.1.toList x.1.toList) := hid' (by show (!Fd.lt (Fd.at' F j).1 x.1) = _; rw [Fd.at_eq hy]; rfl)
              have hq := hid' (show bad = (!Op.bytesLess y.1.toList x.1.toList || ln) by rw [hb.out, hpv.out]; rfl)
              have g0 : decide ((0 : Int) < ((j + 1 : Nat) : Int)) = true := decide_eq_true (by omega)
              have g0n : decide (0 < j + 1) = true := decide_eq_true (by omega)
              have g5 : (0 : Int) ≤ (j : Int) := by omega
              have g6 : (j : Int) < (F.length : Int) := by have := HI.out; omega
              have g3 : IntKind.i64.wrap (j : Int) = (j : Int) := IntWalk.i64_in _ (by omega)
              have g4 : IntKind.i64.wrap (((j + 1 : Nat) : Int) - 1) = (j : Int) := by rw [IntWalk.i64_in _ (by omega)]; omega
              clear hb hpv hy e y0 j1 j2 hi
              cases hlt : Op.bytesLess y.1.toList x.1.toList with
              | true =>
                rw [hlt] at hq
                refine wp_region_keep (fun w' => Below w8.heap.size w8 w') (by kernel_rfl) (by kernel_rfl) hbx ?_
                repeat (first
                  | (refine wpKeep_skip ?_ ?_
                     · rfl
                     simp only [Act.put, List.setIfInBounds_toArray, List.set_cons_zero, List.set_cons_succ])
                  | (apply wpKeep_val
                     · rfl
                     · (intro w hSw; obtain ⟨c0, c1, c2, c3⟩ := HK.out w hSw; have cy := HKY.out w hSw; first | (go_simp; done) | (go_simp; with_reducible rfl))
                     simp only [Act.put, List.setIfInBounds_toArray, List.set_cons_zero, List.set_cons_succ]))
                refine wpKeep_nil ?_
                intro w' hS'
                go_wp2_with fail
                go_meet
                exact ⟨by rw [hq.out] <;> rfl, hS'⟩
              | false =>
                rw [hlt] at hq
                refine wp_region_keep (fun w' => Below w8.heap.size w8 w') (by kernel_rfl) (by kernel_rfl) hbx ?_
                repeat (first
                  | (refine wpKeep_skip ?_ ?_
                     · rfl
                     simp only [Act.put, List.setIfInBounds_toArray, List.set_cons_zero, List.set_cons_succ])
                  | (apply wpKeep_val
                     · rfl
                     · (intro w hSw; obtain ⟨c0, c1, c2, c3⟩ := HK.out w hSw; have cy := HKY.out w hSw; first | (go_simp; done) | (go_simp; with_reducible rfl))
                     simp only [Act.put, List.setIfInBounds_toArray, List.set_cons_zero, List.set_cons_succ]))
                refine wpKeep_nil ?_
                intro w' hS'
                go_wp2_with fail
                go_meet
                exact ⟨by rw [hq.out] <;> rfl, hS'⟩
        case rest =>
          obtain ⟨rfl, HBC⟩ := hcut
          have HBX9 := hid' (box_below HBC.out HBX8.out)
          have HS9 := hid' (HSS8.out.below HBC.out)
          have HW9 := hid' (Below.more HW8.out HBC.out)
          have HW90 := hid' (HB.out.trans (HW9.out.mono HB.out.size))
          clear HBX8 HSS8 HBC HE8 HW8
          cases hbad2 : bad with
          | true =>
            have hno : ¬ Fd.Ok F := fun ok => Fd.head_bad HI.out (hbad.out.symm.trans hbad2) (ok.2 i x HX.out)
            have e := hid' (show R = false by rw [HRF.out, Fd.right_no hno])
            clear hno hbad2
            go_wp2_with fail
            go_ret
            exact ⟨by rw [e.out]; rfl, HW90.out⟩
          | false =>
            have HG := hid' (show Fd.headBad F i x = false from hbad.out.symm.trans hbad2)
            have HST0 := hid' (show ∀ k, k < 0 → ∀ s, x.2[k]? = some s → Fd.StampOk x.2 k s from fun k hk => by omega)
            have z1 := bcells HBX9.out 1 _ rfl
            clear hbad hbad2
            go_wp2_with fail
            clear z1
            go_loopw [63] (fun kv wz => ∃ k : Nat, kv = .int .i64 (k : Int) ∧ k ≤ x.2.length ∧ Hid (∀ m, m < k → ∀ s, x.2[m]? = some s → Fd.StampOk x.2 m s) ∧ Hid (Below wc.heap.size wc wz)) (fun kv _ => x.2.length - (intOf kv).toNat)
            case atStart => exact ⟨0, rfl, Nat.zero_le _, HST0, Below.refl _ _⟩
            case round =>
              obtain ⟨k, rfl, hk, HST, HZ⟩ := hrel
              clear wi
              by_cases hkn : k < x.2.length
              · obtain ⟨z, hz⟩ : ∃ z, x.2[k]? = some z := ⟨_, List.getElem?_eq_getElem hkn⟩
                have HSZ := hid' (HS9.out.below HZ.out)
                obtain ⟨sp', sc', e, -, hss⟩ := HSZ.out
                obtain ⟨rfl, rfl⟩ : sp = sp' ∧ sc = sc' := by simpa using e
                obtain ⟨sb, so, rfl, -, ⟨y0, y1⟩, -, -⟩ := hss k z hz
                have HSS := hid' hss
                have HBZ := hid' (box_below HZ.out HBX9.out)
                have k1 : (0 : Int) ≤ (k : Int) := by omega
                have k2 : (k : Int) < (x.2.length : Int) := by omega
                have HZ1 := hid' hz
                have HKN := hid' hkn
                have wk : IntKind.i64.wrap ((k : Int) + 1) = (k : Int) + 1 := IntWalk.i64_in _ (by have := HSB.out; unfold maxLen at this; omega)
                clear e hss hz hkn
                go_upto_region 13 with (fail)
                have BX := (Below.refl wr.heap.size wr).alloc (Nat.le_refl _) (.cells #[.int .i64 z.1, .int .i64 z.2] 68)
                have hbx9 := heap_alloc_new wr (.cells #[.int .i64 z.1, .int .i64 z.2] 68)
                have HBS := hid' (Below.more HZ.out BX)
                have HBXS := hid' hbx9
                have HFXS := hid' (box_below BX HBZ.out)
                have HKA := hid' (keep_all BX)
                clear BX hbx9 y0 y1 HBZ
                generalize wr.alloc (.cells #[.int .i64 z.1, .int .i64 z.2] 68) = ws at *
                generalize wr.heap.size = zb at *
                obtain ⟨bad2, hbad⟩ : ∃ bad2, Hid (bad2 = Fd.stampBad x.2 k z) := ⟨_, rfl⟩
                go_cut [95] (fun v wx => v = .bool bad2 ∧ Hid (Below ws.heap.size ws wx))
                case first =>
                  have hb := hid' (show bad2 = (!(decide (0 ≤ z.1) && decide (z.1 ≤ 73048)) || (Fd.prevLate x.2 k z.1 || !(z.2 == Num.clamp z.2))) from hbad.out)
                  have hbx := (Below.refl ws.heap.size ws).drew
                  obtain ⟨D, hD⟩ : ∃ D, (decide (0 ≤ z.1) && decide (z.1 ≤ 73048)) = D := ⟨_, rfl⟩
                  obtain ⟨cl, hcl⟩ : ∃ cl, (z.2 == Num.clamp z.2) = cl := ⟨_, rfl⟩
                  rw [hD, hcl] at hb
                  have hday := hD
                  have hcl2 : (z.2 != Num.clamp z.2) = !cl := by rw [← hcl]; rfl
                  have HK := hid' (fun (W : World) (b : Below ws.heap.size ws W) => And.intro (bcells (box_below b HBXS.out) 0 _ rfl) (And.intro (bcells (box_below b HBXS.out) 1 _ rfl) (And.intro (bcells (box_below b HFXS.out) 1 _ rfl) trivial)))
                  clear hD hcl
                  cases D with
                  | false =>
                    have hq := hid' (show bad2 = true from hb.out)
                    clear hb wk
                    refine wp_region_keep (fun w' => Below ws.heap.size ws w') (by kernel_rfl) (by kernel_rfl) hbx ?_
                    repeat (first
                      | (refine wpKeep_skip ?_ ?_
                         · rfl
                         simp only [Act.put, List.setIfInBounds_toArray, List.set_cons_zero, List.set_cons_succ])
                      | (apply wpKeep_call 28 #[.int .i64 z.1]
                         · rfl
                         · (intro w hSw; obtain ⟨c0, c1, c2, c3⟩ := HK.out w hSw; go_simp; done)
                         · (intro w hSw; exact (dnisDay_any z.1 w).mono fun e w'' h => ⟨by rw [h.1, hday], by rw [h.2]; exact hSw⟩)
                         simp only [Act.put, List.setIfInBounds_toArray, List.set_cons_zero, List.set_cons_succ])
                      | (apply wpKeep_call 21 #[.int .i64 z.2]
                         · rfl
                         · (intro w hSw; obtain ⟨c0, c1, c2, c3⟩ := HK.out w hSw; go_simp; done)
                         · (intro w hSw; exact (clamp_any z.2 w).mono fun e w'' h => ⟨h.1, by rw [h.2]; exact hSw⟩)
                         simp only [Act.put, List.setIfInBounds_toArray, List.set_cons_zero, List.set_cons_succ])
                      | (apply wpKeep_val
                         · rfl
                         · (intro w hSw; obtain ⟨c0, c1, c2, c3⟩ := HK.out w hSw; first | (go_simp; done) | (go_simp; with_reducible rfl))
                         simp only [Act.put, List.setIfInBounds_toArray, List.set_cons_zero, List.set_cons_succ]))
                    refine wpKeep_nil ?_
                    intro w' hS'
                    go_wp2_with fail
                    go_meet
                    exact ⟨by rw [hq.out] <;> rfl, hS'⟩
                  | true =>
                    cases k with
                    | zero =>
                      have g0 : decide ((0 : Int) < ((0 : Nat) : Int)) = false := rfl
                      have hq := hid' (show bad2 = !cl from hb.out)
                      clear hb wk
                      refine wp_region_keep (fun w' => Below ws.heap.size ws w') (by kernel_rfl) (by kernel_rfl) hbx ?_
                      repeat (first
                        | (refine wpKeep_skip ?_ ?_
                           · rfl
                           simp only [Act.put, List.setIfInBounds_toArray, List.set_cons_zero, List.set_cons_succ])
                        | (apply wpKeep_call 28 #[.int .i64 z.1]
                           · rfl
                           · (intro w hSw; obtain ⟨c0, c1, c2, c3⟩ := HK.out w hSw; go_simp; done)
                           · (intro w hSw; exact (dnisDay_any z.1 w).mono fun e w'' h => ⟨by rw [h.1, hday], by rw [h.2]; exact hSw⟩)
                           simp only [Act.put, List.setIfInBounds_toArray, List.set_cons_zero, List.set_cons_succ])
                        | (apply wpKeep_call 21 #[.int .i64 z.2]
                           · rfl
                           · (intro w hSw; obtain ⟨c0, c1, c2, c3⟩ := HK.out w hSw; go_simp; done)
                           · (intro w hSw; exact (clamp_any z.2 w).mono fun e w'' h => ⟨h.1, by rw [h.2]; exact hSw⟩)
                           simp only [Act.put, List.setIfInBounds_toArray, List.set_cons_zero, List.set_cons_succ])
                        | (apply wpKeep_val
                           · rfl
                           · (intro w hSw; obtain ⟨c0, c1, c2, c3⟩ := HK.out w hSw; first | (go_simp; done) | (go_simp; with_reducible rfl))
                           simp only [Act.put, List.setIfInBounds_toArray, List.set_cons_zero, List.set_cons_succ]))
                      refine wpKeep_nil ?_
                      intro w' hS'
                      go_wp2_with fail
                      go_meet
                      exact ⟨by rw [hq.out] <;> rfl, hS'⟩
                    | succ m =>
                      clear wk
                      obtain ⟨y, hy⟩ : ∃ y, x.2[m]? = some y := ⟨_, List.getElem?_eq_getElem (by have := HKN.out; omega)⟩
                      obtain ⟨sb', so', e, -, ⟨y0, -⟩, -, -⟩ := HSS.out m y hy
                      obtain ⟨rfl, rfl⟩ : sb = sb' ∧ so = so' := by simpa using e
                      have HKY := hid' (fun (W : World) (b : Below ws.heap.size ws W) => keep_all b _ _ (HKA.out _ _ y0))
                      have hpv : Hid (Fd.prevLate x.2 (m + 1) z.1 = decide (z.1 ≤ y.1)) := hid' (by show decide (z.1 ≤ (Fd.stampAt x.2 m).1) = _; rw [Fd.stampAt_eq hy])
                      have hq := hid' (show bad2 = (decide (z.1 ≤ y.1) || !cl) by rw [hb.out, hpv.out]; rfl)
                      have g0 : decide ((0 : Int) < ((m + 1 : Nat) : Int)) = true := decide_eq_true (by omega)
                      have g0n : decide (0 < m + 1) = true := decide_eq_true (by omega)
                      have g5 : (0 : Int) ≤ (m : Int) := by omega
                      have g6 : (m : Int) < (x.2.length : Int) := by have := HKN.out; omega
                      have g3 : IntKind.i64.wrap (m : Int) = (m : Int) := IntWalk.i64_in _ (by have := HSB.out; unfold maxLen at this; omega)
                      have g4 : IntKind.i64.wrap (((m + 1 : Nat) : Int) - 1) = (m : Int) := by rw [IntWalk.i64_in _ (by have := HSB.out; unfold maxLen at this; omega)]; omega
                      clear hb hpv hy e y0 k1 k2 hk
                      cases hlt : decide (z.1 ≤ y.1) with
                      | true =>
                        rw [hlt] at hq
                        refine wp_region_keep (fun w' => Below ws.heap.size ws w') (by kernel_rfl) (by kernel_rfl) hbx ?_
                        repeat (first
                          | (refine wpKeep_skip ?_ ?_
                             · rfl
                             simp only [Act.put, List.setIfInBounds_toArray, List.set_cons_zero, List.set_cons_succ])
                          | (apply wpKeep_call 28 #[.int .i64 z.1]
                             · rfl
                             · (intro w hSw; obtain ⟨c0, c1, c2, c3⟩ := HK.out w hSw; have cy := HKY.out w hSw; go_simp; done)
                             · (intro w hSw; exact (dnisDay_any z.1 w).mono fun e w'' h => ⟨by rw [h.1, hday], by rw [h.2]; exact hSw⟩)
                             simp only [Act.put, List.setIfInBounds_toArray, List.set_cons_zero, List.set_cons_succ])
                          | (apply wpKeep_call 21 #[.int .i64 z.2]
                             · rfl
                             · (intro w hSw; obtain ⟨c0, c1, c2, c3⟩ := HK.out w hSw; have cy := HKY.out w hSw; go_simp; done)
                             · (intro w hSw; exact (clamp_any z.2 w).mono fun e w'' h => ⟨h.1, by rw [h.2]; exact hSw⟩)
                             simp only [Act.put, List.setIfInBounds_toArray, List.set_cons_zero, List.set_cons_succ])
                          | (apply wpKeep_val
                             · rfl
                             · (intro w hSw; obtain ⟨c0, c1, c2, c3⟩ := HK.out w hSw; have cy := HKY.out w hSw; first | (go_simp; done) | (go_simp; with_reducible rfl))
                             simp only [Act.put, List.setIfInBounds_toArray, List.set_cons_zero, List.set_cons_succ]))
                        refine wpKeep_nil ?_
                        intro w' hS'
                        go_wp2_with fail
                        go_meet
                        exact ⟨by rw [hq.out] <;> rfl, hS'⟩
                      | false =>
                        rw [hlt] at hq
                        refine wp_region_keep (fun w' => Below ws.heap.size ws w') (by kernel_rfl) (by kernel_rfl) hbx ?_
                        repeat (first
                          | (refine wpKeep_skip ?_ ?_
                             · rfl
                             simp only [Act.put, List.setIfInBounds_toArray, List.set_cons_zero, List.set_cons_succ])
                          | (apply wpKeep_call 28 #[.int .i64 z.1]
                             · rfl
                             · (intro w hSw; obtain ⟨c0, c1, c2, c3⟩ := HK.out w hSw; have cy := HKY.out w hSw; go_simp; done)
                             · (intro w hSw; exact (dnisDay_any z.1 w).mono fun e w'' h => ⟨by rw [h.1, hday], by rw [h.2]; exact hSw⟩)
                             simp only [Act.put, List.setIfInBounds_toArray, List.set_cons_zero, List.set_cons_succ])
                          | (apply wpKeep_call 21 #[.int .i64 z.2]
                             · rfl
                             · (intro w hSw; obtain ⟨c0, c1, c2, c3⟩ := HK.out w hSw; have cy := HKY.out w hSw; go_simp; done)
                             · (intro w hSw; exact (clamp_any z.2 w).mono fun e w'' h => ⟨h.1, by rw [h.2]; exact hSw⟩)
                             simp only [Act.put, List.setIfInBounds_toArray, List.set_cons_zero, List.set_cons_succ])
                          | (apply wpKeep_val
                             · rfl
                             · (intro w hSw; obtain ⟨c0, c1, c2, c3⟩ := HK.out w hSw; have cy := HKY.out w hSw; first | (go_simp; done) | (go_simp; with_reducible rfl))
                             simp only [Act.put, List.setIfInBounds_toArray, List.set_cons_zero, List.set_cons_succ]))
                        refine wpKeep_nil ?_
                        intro w' hS'
                        go_wp2_with fail
                        go_meet
                        exact ⟨by rw [hq.out] <;> rfl, hS'⟩
                case rest =>
                  obtain ⟨rfl, HBC9⟩ := hcut
                  have HZ9 := hid' (Below.more HBS.out HBC9.out)
                  have HWZ := hid' (HB.out.trans ((Below.more HW9.out HZ9.out).mono HB.out.size))
                  clear HBXS HFXS HKA HBC9 HBS
                  cases hb2 : bad2 with
                  | true =>
                    have hno : ¬ Fd.Ok F := fun ok => Fd.stamp_bad HKN.out (hbad.out.symm.trans hb2) ((ok.2 i x HX.out).stamps k z HZ1.out)
                    have e := hid' (show R = false by rw [HRF.out, Fd.right_no hno])
                    clear hno hb2 wk
                    go_wp2_with fail
                    go_ret
                    exact ⟨by rw [e.out]; rfl, HWZ.out⟩
                  | false =>
                    have hgood := Fd.stamp_good (hbad.out.symm.trans hb2)
                    have hnext : ∀ m, m < k + 1 → ∀ s, x.2[m]? = some s → Fd.StampOk x.2 m s := fun m hm s hs => by
                      rcases (by omega : m < k ∨ m = k) with h | rfl
                      · exact HST.out m h s hs
                      · obtain rfl : z = s := by have := HZ1.out.symm.trans hs; simpa using this
                        exact hgood
                    have HN := hid' hnext
                    clear hgood hnext hb2
                    go_wp2_with fail
                    go_roundw
                    case rel => exact ⟨k + 1, by go_num, by have := HKN.out; omega, HN, HZ9⟩
                    case measure => have := HKN.out; simp [intOf]; omega
              · obtain rfl : k = x.2.length := by omega
                have hok := Fd.feed_good HG.out (fun m s hm => HST.out m (List.getElem?_eq_some_iff.1 hm).1 s hm)
                have HNX := hid' (show ∀ j, j < i + 1 → ∀ f, F[j]? = some f → Fd.FeedOk F j f from fun j hj f hf => by
                  rcases (by omega : j < i ∨ j = i) with h | rfl
                  · exact HA.out j h f hf
                  · obtain rfl : x = f := by have := HX.out.symm.trans hf; simpa using this
                    exact hok)
                have j3 : decide (x.2.length < x.2.length) = false := by simp
                have wi : IntKind.i64.wrap ((i : Int) + 1) = (i : Int) + 1 := IntWalk.i64_in _ (by omega)
                clear hok hkn
                go_wp2_with fail
                go_roundw
                case rel => exact ⟨i + 1, by go_num, by have := HI.out; omega, HNX, Below.more HW9.out HZ.out⟩
                case measure => have := HI.out; simp [intOf]; omega
      · obtain rfl : i = F.length := by omega
        have e := hid' (show R = true by rw [HRF.out, Fd.right_yes (F := F) ⟨HLE.out, fun j f hj => HA.out j (List.getElem?_eq_some_iff.1 hj).1 f hj⟩])
        have j3 : decide (F.length < F.length) = false := by simp
        clear hin
        go_wp2_with fail
        go_ret
        exact ⟨by rw [e.out]; rfl, HW0.out⟩
end Go.Proofs.YtcpobnknmegkmaaDoor
namespace Go.Proofs.YtcpobnknmegkmaaDoor
open Go.RowKit
open Rw
set_option linter.unusedVariables false
set_option linter.unusedSimpArgs false
set_option maxRecDepth 100000
namespace Co
theorem index_99 (y : UInt8) : (Lib.indexByte [110, 98, 100, 63, 99] y == 4) = (y == 99) := by
  have e : ∀ (b : UInt8) (l : List UInt8), Lib.indexByte (b :: l) y = if (b == y) = true then 0 else if (Lib.indexByte l y == -1) = true then -1 else Lib.indexByte l y + 1 := fun b l => rfl
  have e0 : Lib.indexByte [] y = -1 := rfl
  rw [e, e, e, e, e, e0]
  by_cases h1 : y = 110
  · subst h1; decide
  by_cases h2 : y = 98
  · subst h2; decide
  by_cases h3 : y = 100
  · subst h3; decide
  by_cases h4 : y = 63
  · subst h4; decide
  by_cases h5 : y = 99
  · subst h5; decide
  have f : ∀ b : UInt8, y ≠ b → (b == y) = false := fun b h => by simpa using fun e => h e.symm
  rw [f 110 h1, f 98 h2, f 100 h3, f 63 h4, f 99 h5]
  have : (y == 99) = false := by simpa using h5
  rw [this]
  rfl
theorem check_good (t : T) : t.check = 0 ↔ t.good := by
  unfold T.check T.good T.ty
  cases hr : t.right with
  | false =>
    simp only [Bool.false_and, cond_false]
    constructor
    · intro h; cases h
    · rintro ⟨h1, h2, h3⟩
      unfold T.right at hr
      rw [h1, h2] at hr
      cases hr
  | true =>
    have hs : small t = true := by unfold T.right at hr; rw [Bool.and_eq_true] at hr; exact hr.1
    simp only [Bool.true_and, cond_true, index_99]
    cases hy : (t.letter == 99) with
    | false =>
      simp only [cond_false]
      constructor
      · intro h; cases h
      · rintro ⟨h1, h2, h3⟩
        rw [h2] at hy
        cases hy
    | true =>
      cases ha : t.ahead with
      | true => simp
      | false => simp [hs]; simpa using hy
end Co
open Classical in
noncomputable def pickB (lab : ByteArray) (wh : Int) : Bool := if lab = ⟨#[]⟩ then wh == 0 else Led.isName lab && (wh == 1 || wh == 2)
theorem dnpick_any (lab : ByteArray) (wh : Int) (w : World) (hl : lab.size ≤ 2000000) : Calls Tryd.prog 19 #[.agg #[.string lab, .int .i64 wh]] w (Gives (.bool (pickB lab wh)) w) := by
  have HB := hid' ((Below.refl w.heap.size w).alloc (Nat.le_refl _) (.cells #[.string lab, .int .i64 wh] 27))
  have HC := hid' (heap_alloc_new w (.cells #[.string lab, .int .i64 wh] 27))
  obtain ⟨R, hR⟩ : ∃ R, Hid (pickB lab wh = R) := ⟨_, hid' rfl⟩
  rw [hR.out]
  by_cases h0 : lab = ⟨#[]⟩
  · subst h0
    have e := hid' (show R = (wh == 0) by rw [← hR.out]; unfold pickB; rw [if_pos rfl])
    go_enter Tryd.func19, Tryd.ntmps19
    go_wp2_with fail
    go_ret
    exact ⟨by rw [e.out]; rfl, HB.out⟩
  · have g0 := nonempty_list h0
    have hq := hid' (show R = (Led.isName lab && (wh == 1 || wh == 2)) by rw [← hR.out]; unfold pickB; rw [if_neg h0])
    have HT := hid' (fun W => type_feed lab W (by omega))
    obtain ⟨nm, hnm⟩ : ∃ nm, Hid (Led.isName lab = nm) := ⟨_, hid' rfl⟩
    rw [hnm.out] at HT hq
    clear h0 hR
    go_enter Tryd.func19, Tryd.ntmps19
    go_upto_region 1 with (fail)
    generalize World.alloc _ _ = w1 at *
    have c0 := bcells HC.out 0 _ rfl
    go_upto_region 4 with (first | (go_at_call 26; refine (HT.out _).mono ?_; rintro e w2 ⟨rfl, b2⟩))
    have HB2 := hid' (HB.out.trans (b2.mono HB.out.size))
    have c1 := bcells (box_below b2 HC.out) 1 _ rfl
    clear b2 c0
    cases nm with
    | false =>
      have e := hid' (show R = false from hq.out)
      go_wp2_with fail
      go_ret
      exact ⟨by rw [e.out]; rfl, HB2.out⟩
    | true =>
      have e := hid' (show R = (wh == 1 || wh == 2) from hq.out)
      by_cases h1 : wh = 1
      · subst h1
        go_wp2_with fail
        go_ret
        exact ⟨by rw [e.out]; rfl, HB2.out⟩
      · have g1 : (wh == 1) = false := by rw [beq_eq_false_iff_ne]; exact h1
        have e2 := hid' (show R = (wh == 2) by rw [e.out, g1]; rfl)
        clear h1
        go_wp2_with fail
        go_ret
        exact ⟨by rw [e2.out]; rfl, HB2.out⟩
namespace Dn
open Classical in
noncomputable def beginR (t : Co.T) (day : Int) (F : List Fd.Feed) : Option R := if t.good ∧ dayOk day = true ∧ Fd.Ok F then some (acq (eyes F day) t 0 1000000) else none
end Dn
def wrongOut : Value := .tuple #[.slice none 0 0, .slice none 0 0, .int .i64 150]
/-- What Begin and Step return. -/
def DnPost (o : Option Dn.R) (day : Int) (w : World) (e : Ending) (w' : World) : Prop :=
  Below w.heap.size w w' ∧ match o with
    | none => e = .returned wrongOut
    | some r => ∃ vl vo, e = .returned (.tuple #[vl, vo, .int .i64 0]) ∧ LiveRow w.heap.size w' vl r.1 ∧ TranRow w.heap.size w' vo day r.2
theorem dn_row_mono {W : World} {b b' z n : Nat} {t : TypeId} {v : Value} {xs : List Value} (h : W.ownsRow b t z v n xs) (hb : b' ≤ b) : W.ownsRow b' t z v n xs :=
  ⟨h.1, h.2.imp id fun ⟨g, cap, cur, e1, e2, e3⟩ => ⟨g, cap, cur, e1, Nat.le_trans hb e2, e3⟩⟩
set_option maxHeartbeats 8000000 in
theorem dnbegin_any (t : Co.T) (day : Int) (F : List Fd.Feed) (ok : Nat → Prop) (v vf : Value) (w : World) (hv : CoreIn ok w t v) (hsz : t.size ≤ 2000000) (hF : FeedsAt w vf F) :
    Calls Tryd.prog 8 #[v, .int .i64 day, vf] w (DnPost (Dn.beginR t day F) day w) := by
  obtain ⟨p, c, hve, -⟩ := hv.open
  obtain ⟨op, n, s, ln, rfl⟩ : ∃ op n s ln, v = .agg #[.int .i64 op, .int .i64 n, .string s, .slice p ln c] := ⟨_, _, _, _, hve⟩
  clear hve
  obtain ⟨R, hR⟩ : ∃ R, Hid (Dn.beginR t day F = R) := ⟨_, hid' rfl⟩
  rw [hR.out]
  have HB0 := hid' ((Below.refl w.heap.size w).alloc (Nat.le_refl _) (.cells #[.int .i64 op, .int .i64 n, .string s, .slice p ln c] 24))
  have HC0 := hid' (heap_alloc_new w (.cells #[.int .i64 op, .int .i64 n, .string s, .slice p ln c] 24))
  have HV := hid' hv
  have HF := hid' hF
  obtain ⟨fp, fc, rfl, -, -⟩ := hF
  have HSZ := hid' hsz
  clear hv hsz
  go_enter Tryd.func8, Tryd.ntmps8
  go_upto_region 1 with (fail)
  generalize World.alloc _ _ = w0 at *
  have HS := hid' (Runs.start w0 day (.slice fp F.length fc))
  have hb1 := (Below.refl w0.heap.size w0).alloc (Nat.le_refl _) (.cells #[.int .i64 day, .slice fp F.length fc, .slice none 0 0, .slice none 0 0] 53)
  have HB1 := hid' (HB0.out.trans (hb1.mono HB0.out.size))
  have HC1 := hid' (box_below hb1 HC0.out)
  have HLT := hid' (show w.heap.size ≤ w0.heap.size from HB0.out.size)
  go_upto_region 2 with (fail)
  obtain ⟨rb, hrb⟩ : ∃ rb, rb = w0.heap.size := ⟨_, rfl⟩
  rw [← hrb] at HS ⊢
  have HRB := hid' hrb
  clear hb1 hrb
  generalize World.alloc w0 _ = w1 at *
  have HCK := hid' (fun W (h : Below w1.heap.size w1 W) => checkT_any t _ W ((HV.out.under (HB1.out.trans (h.mono HB1.out.size))).at' (Nat.le_refl _)) HSZ.out)
  have HRT := hid' (fun W (h : Below w1.heap.size w1 W) => dnright_any day _ F W (HF.out.below (HB1.out.trans (h.mono HB1.out.size))))
  obtain ⟨C, hC⟩ : ∃ C, Hid (t.check = C) := ⟨_, hid' rfl⟩
  obtain ⟨G, hG⟩ : ∃ G, Hid ((dayOk day && Fd.right F) = G) := ⟨_, hid' rfl⟩
  rw [hC.out] at HCK
  rw [hG.out] at HRT
  obtain ⟨d0, d1, d2, d3⟩ := heap_cells4 HC1.out
  have r0 := bcells HS.out.box 0 _ rfl
  have r1 := bcells HS.out.box 1 _ rfl
  by_cases hc0 : C = 0
  · subst hc0
    have hgood := hid' ((Co.check_good t).1 hC.out)
    cases G with
    | false =>
      have e := hid' (show R = none by
        rw [← hR.out]
        unfold Dn.beginR
        rw [if_neg]
        rintro ⟨-, h2, h3⟩
        have h := hG.out
        rw [h2, Fd.right_yes h3] at h
        cases h)
      go_wp2_with (first | (go_at_call 16; refine (HCK.out _ (Below.refl _ _)).mono ?_; rintro e w2 ⟨rfl, b2⟩; have HB2 := hid' b2; have r0' := keep_all b2 _ _ r0; have r1' := keep_all b2 _ _ r1; clear b2) | (go_at_call 17; refine (HRT.out _ HB2.out).mono ?_; rintro e w3 ⟨rfl, b3⟩; have HB3 := hid' (HB1.out.trans ((Below.more HB2.out b3).mono HB1.out.size)); clear b3))
      exact bodyPost_ret (results_tmp3 rfl _ _ _) rfl ⟨HB3.out, by rw [e.out]; rfl⟩
    | true =>
      have hok : dayOk day = true ∧ Fd.Ok F := by
        have h := hG.out
        rw [Bool.and_eq_true] at h
        exact ⟨h.1, Fd.right_ok h.2⟩
      have HOK := hid' hok
      have e := hid' (show R = some (Dn.acq (Dn.eyes F day) t 0 1000000) by
        rw [← hR.out]
        unfold Dn.beginR
        rw [if_pos ⟨hgood.out, hok⟩])
      have HDAY := hid' (show 0 ≤ day ∧ day ≤ 73048 by
        have h := hok.1
        unfold dayOk at h
        simpa using h)
      have HEN := hid' (show RunEnv w0 rb F day (.slice fp F.length fc) from ⟨HF.out.below HB0.out, HOK.out.2, HDAY.out, by rw [HRB.out]; exact Nat.le_refl _⟩)
      have hsm := (Co.small_iff t).1 hgood.out.1
      have HAQ := hid' (fun (W : World) (h : Below w1.heap.size w1 W) => dnacq_any HEN.out t ok _ 0 1000000 [] [] _ _ W (HV.out.under HB0.out) hgood.out.2.1 HSZ.out (Int.le_refl _) (by omega) (by unfold Dn.NumOk; omega) (by simp; omega) (by simp; omega) (HS.out.below h))
      clear hok hsm
      obtain ⟨A, hA⟩ : ∃ A, Hid (Dn.acq (Dn.eyes F day) t 0 1000000 = A) := ⟨_, hid' rfl⟩
      rw [hA.out] at HAQ e
      go_upto_region 4 with (first | (go_at_call 16; refine (HCK.out _ (Below.refl _ _)).mono ?_; rintro e w2 ⟨rfl, b2⟩; have HB2 := hid' b2; have r0' := keep_all b2 _ _ r0; have r1' := keep_all b2 _ _ r1; clear b2) | (go_at_call 17; refine (HRT.out _ HB2.out).mono ?_; rintro e w3 ⟨rfl, b3⟩; have HB3 := hid' (Below.more HB2.out b3); clear b3))
      clear d0 d1 d2 d3 r0' r1' r0 r1
      have HAC := hid' (HAQ.out w3 HB3.out)
      obtain ⟨d0, d1, d2, d3⟩ := heap_cells4 (box_below HB3.out HC1.out)
      go_upto_region 5 with (first | (go_at_call 18; refine HAC.out.mono ?_; rintro e w5 ⟨⟨x, rfl⟩, ⟨vl, vo, hr5⟩, k5⟩; have HP5 := hid' (And.intro hr5 k5); clear hr5 k5))
      clear d0 d1 d2 d3
      have HFA := hid' (fun W (h : Below w5.heap.size w5 W) => And.intro (bcells (box_below h HP5.out.1.box) 2 _ rfl) (bcells (box_below h HP5.out.1.box) 3 _ rfl))
      refine wp_region_keep (Below w5.heap.size w5) (by kernel_rfl) (by kernel_rfl) (Below.refl _ _).drew ?_
      repeat (first
        | (refine wpKeep_skip ?_ ?_
           · rfl
           simp only [Act.put, List.setIfInBounds_toArray, List.set_cons_zero, List.set_cons_succ])
        | (apply wpKeep_val
           · rfl
           · (intro w hSw; obtain ⟨c2, c3⟩ := HFA.out w hSw; first | (go_simp; done) | (go_simp; with_reducible rfl))
           simp only [Act.put, List.setIfInBounds_toArray, List.set_cons_zero, List.set_cons_succ]))
      refine wpKeep_nil ?_
      intro w6 hS'
      have HR6 := hid' (HP5.out.1.below hS')
      clear hS'
      go_wp2_with fail
      refine bodyPost_ret (results_tmp3 rfl _ _ _) rfl ⟨HB0.out.trans (HR6.out.bel.mono (by rw [HRB.out]; exact HLT.out)), ?_⟩
      rw [e.out]
      have hle : w.heap.size ≤ rb + 1 := by rw [HRB.out]; exact Nat.le_succ_of_le HLT.out
      exact ⟨_, _, rfl, dn_row_mono (show LiveRow (rb + 1) w6 vl A.1 by simpa using HR6.out.ls) hle, dn_row_mono (show TranRow (rb + 1) w6 vo day A.2 by simpa using HR6.out.ts) hle⟩
  · have g0 : (C != 0) = true := by rw [bne_iff_ne]; exact hc0
    have e := hid' (show R = none by
      rw [← hR.out]
      unfold Dn.beginR
      rw [if_neg]
      rintro ⟨h1, -, -⟩
      exact hc0 (by rw [← hC.out]; exact (Co.check_good t).2 h1))
    clear hc0
    go_wp2_with (first | (go_at_call 16; refine (HCK.out _ (Below.refl _ _)).mono ?_; rintro e w2 ⟨rfl, b2⟩; have HB2 := hid' (HB1.out.trans (b2.mono HB1.out.size)); clear b2))
    exact bodyPost_ret (results_tmp3 rfl _ _ _) rfl ⟨HB2.out, by rw [e.out]; rfl⟩
end Go.Proofs.YtcpobnknmegkmaaDoor
namespace Go.Proofs.YtcpobnknmegkmaaDoor
open Go.RowKit
open Rw
set_option linter.unusedVariables false
set_option linter.unusedSimpArgs false
set_option maxRecDepth 100000
/-- A value's four cells. -/
abbrev Q4 : Type := Value × Value × Value × Value
def Q4.val (q : Q4) : Value := .agg #[q.1, q.2.1, q.2.2.1, q.2.2.2]
def Q4.cells (q : Q4) : List Value := [q.1, q.2.1, q.2.2.1, q.2.2.2]
theorem info_core : (Tryd.prog.info? 24).map (fun i => (i.zero, i.size, i.bytes)) = some (some (.agg #[.int .i64 0, .int .i64 0, .string ⟨#[]⟩, .slice none 0 0]), 4, 56) := by kernel_rfl
/-- Terms in a row of the call's own; what lies behind them lies in an earlier world. -/
def TermRow (ok : Nat → Prop) (W0 : World) (base : Nat) (L : List Co.T) (v : Value) (W : World) : Prop := ∃ qs : List Q4, qs.length = L.length ∧ W.ownsRow base 24 4 v L.length (qs.flatMap Q4.cells) ∧
  ∀ (j : Nat) u, L[j]? = some u → ∃ q : Q4, qs[j]? = some q ∧ CoreIn ok W0 u q.val
theorem TermRow.nil (ok : Nat → Prop) (W0 : World) (base : Nat) (W : World) : TermRow ok W0 base [] (.slice none 0 0) W :=
  ⟨[], rfl, ⟨rfl, .inl ⟨rfl, rfl⟩⟩, fun j u h => by simp at h⟩
/-- Which block is written: the row's, or a new one. -/
def Moved (W : World) (r r' : Option Nat) : Prop := r' = r ∨ ∃ b, r' = some b ∧ W.heap.size ≤ b
theorem Moved.refl (W : World) (r : Option Nat) : Moved W r r := .inl rfl
theorem grown_comp {a b c : World} {r r' : Option Nat} (h : a.grownBy b r) (m : Moved a r r') (k : b.grownBy c r') : a.grownBy c r :=
  ⟨k.os.trans h.os, k.tape.trans h.tape, k.output.trans h.output, Nat.le_trans h.size k.size, fun i hi hne => (k.block i (Nat.lt_of_lt_of_le hi h.size) (by
    rcases m with rfl | ⟨x, rfl, hx⟩
    · exact hne
    · intro e
      have : i = x := by simpa using e
      omega)).trans (h.block i hi hne)⟩
theorem Moved.comp {a b : World} {r r' r'' : Option Nat} (m : Moved a r r') (hs : a.heap.size ≤ b.heap.size) (m' : Moved b r' r'') : Moved a r r'' := by
  rcases m' with rfl | ⟨x, rfl, hx⟩
  · exact m
  · exact .inr ⟨x, rfl, Nat.le_trans hs hx⟩
theorem TermRow.kept {ok : Nat → Prop} {W0 : World} {base : Nat} {L : List Co.T} {v : Value} {W W' : World} (h : TermRow ok W0 base L v W) (b : Below W.heap.size W W') : TermRow ok W0 base L v W' := by
  obtain ⟨qs, h1, h2, h3⟩ := h
  exact ⟨qs, h1, ⟨h2.1, h2.2.imp id fun ⟨g, cap, cur, e1, e2, e3, e4⟩ => ⟨g, cap, cur, e1, e2, (b.block g (lt_of_block e3)).trans e3, e4⟩⟩, h3⟩
theorem append_core {w : World} {ops : Array Oper} {rest : List Oper} {o : Oper} {a : Act} {Q : Exit → Act → World → Prop} (hgd : o.guard = none) (s x : Operand)
    (ho : o.op = .call { callee := .builtin .append, args := #[s, x], argTypes := #[22, 22] })
    (ok : Nat → Prop) (W0 : World) (base : Nat) (v : Value) (L : List Co.T) (hs : a.eval s = v) (hown : TermRow ok W0 base L v w) (u : Co.T) (op n : Int) (t : ByteArray) (p : Option Addr) (len c : Nat) (hu : CoreIn ok W0 u (.agg #[.int .i64 op, .int .i64 n, .string t, .slice p len c])) (hx : a.eval x = .slice (some ⟨w.heap.size, 0, none⟩) 1 1)
    (hbound : L.length + 1 ≤ 1000000) (hbase : base ≤ w.heap.size)
    (h : ∀ v' w', TermRow ok W0 base (L ++ [u]) v' w' → w.grownBy w' v.ownBlock → Moved w v.ownBlock v'.ownBlock → wpList Tryd.prog ops Q rest (a.put o.dst v') w') :
    wpList Tryd.prog ops Q (o :: rest) a (w.alloc (.cells #[.int .i64 op, .int .i64 n, .string t, .slice p len c] 24)) := by
  obtain ⟨i, hi, hz, hsz, hby⟩ := info_split info_core
  obtain ⟨qs, h1, h2, h3⟩ := hown
  refine wpList_append_own_at _ hgd s x 22 ho base 24 i _ 4 56 Tryd.underlying22 hi hz hsz hby rfl (by decide) v L.length _ hs (World.ownsRow.alloc h2 _) ⟨w.heap.size, 0, none⟩ 1 1 (Q4.cells (.int .i64 op, .int .i64 n, .string t, .slice p len c)) hx rfl
    (fun j u hj => ?_) (fun u hu => ?_) (by unfold maxLen; omega) (by omega) (by simp; omega) (fun v' w' k1 k2 _ k4 => h v' w' ?_ (grown_trans (grown_of_below ((Below.refl _ _).alloc (Nat.le_refl _) _) _) k2) ?_)
  · rw [add_gen, World.cell?_alloc_new, Nat.zero_add, ← hj]
    simp [Q4.cells]
  · simp only [Q4.cells, List.mem_cons, List.not_mem_nil, or_false] at hu
    rcases hu with rfl | rfl | rfl | rfl <;> rfl
  · refine ⟨qs ++ [(.int .i64 op, .int .i64 n, .string t, .slice p len c)], by simp [h1], ?_, fun j x hj => ?_⟩
    · rw [List.length_append, List.flatMap_append]
      simpa using k1
    · by_cases hjl : j < L.length
      · rw [List.getElem?_append_left hjl] at hj
        obtain ⟨q', h4, h5⟩ := h3 j x hj
        exact ⟨q', by rw [List.getElem?_append_left (by omega)]; exact h4, h5⟩
      · have hj' := (List.getElem?_eq_some_iff.1 hj).1
        simp only [List.length_append, List.length_cons, List.length_nil] at hj'
        obtain rfl : j = L.length := by omega
        have : u = x := by simpa using hj
        subst this
        exact ⟨(.int .i64 op, .int .i64 n, .string t, .slice p len c), by rw [← h1]; simp, hu⟩
  · rcases k4 with e | e
    · exact .inl e
    · exact .inr ⟨_, e, by simp⟩
theorem pres_take {ks : List Co.T} : ∀ {i : Nat} {k : Co.T}, ks[i]? = some k → Dn.pres (ks.take (i + 1)) = Dn.pres (ks.take i) ++ Dn.pre k := by
  induction ks with
  | nil => intro i k h; cases h
  | cons a r ih =>
    intro i k h
    cases i with
    | zero =>
      obtain rfl : a = k := by simpa using h
      simp [Dn.pres]
    | succ i =>
      have := ih (i := i) (k := k) (by simpa using h)
      rw [List.take_succ_cons, List.take_succ_cons, Dn.pres, Dn.pres, this, List.append_assoc]
theorem pres_len (ks : List Co.T) : (Dn.pres ks).length = Co.sizes ks := by
  induction ks with
  | nil => rfl
  | cons a r ih => rw [Dn.pres, Co.sizes, List.length_append, ih, Dn.pre_len]
def TermPost (ok : Nat → Prop) (W0 : World) (base : Nat) (L : List Co.T) (l : Value) (w : World) (e : Ending) (w' : World) : Prop :=
  ∃ v, e = .returned v ∧ TermRow ok W0 base L v w' ∧ w.grownBy w' l.ownBlock ∧ Moved w l.ownBlock v.ownBlock
theorem TermRow.far {ok : Nat → Prop} {W0 : World} {base : Nat} {L : List Co.T} {v : Value} {W : World} (h : TermRow ok W0 base L v W) {b : Nat} (e : v.ownBlock = some b) : base ≤ b ∧ b < W.heap.size := by
  obtain ⟨qs, h1, h2, h3⟩ := h
  exact World.ownsRow.lt h2 b e
set_option maxHeartbeats 8000000 in
theorem dnterms_any (ok : Nat → Prop) (W0 : World) (base : Nat) (hb0 : W0.heap.size ≤ base) (t : Co.T) : ∀ (v l : Value) (L : List Co.T) (w : World), CoreIn ok W0 t v → Below W0.heap.size W0 w → TermRow ok W0 base L l w → base ≤ w.heap.size → L.length + t.size ≤ 900000 →
    Calls Tryd.prog 20 #[v, l] w (TermPost ok W0 base (L ++ Dn.pre t) l w) := by
  induction t using Co.T.ind with | h op n s ks ih => ?_
  intro v l L w hv hbw hrow hbase hL
  obtain ⟨q, c, rfl, hc, ho, hn, hs, hk⟩ := id hv.open
  simp only [Co.T.op, Co.T.n, Co.T.s, Co.T.ks] at hk hc hv ⊢
  have hz : (Co.T.mk op n s ks).size = 1 + Co.sizes ks := by rw [Co.T.size]
  have HIH := hid' ih
  have HK := hid' hk
  have HBW := hid' hbw
  have HB0 := hid' hb0
  have HBASE := hid' hbase
  have HLN := hid' (show L.length + (1 + Co.sizes ks) ≤ 900000 by omega)
  have HZ := hid' (show ks.length ≤ 900000 by have := Co.sizes_len ks; omega)
  have HV := hid' hv
  have HB := hid' ((Below.refl w.heap.size w).alloc (Nat.le_refl _) (.cells #[.int .i64 op, .int .i64 n, .string s, .slice q ks.length c] 24))
  have HC := hid' (heap_alloc_new w (.cells #[.int .i64 op, .int .i64 n, .string s, .slice q ks.length c] 24))
  have HR := hid' (hrow.kept HB.out)
  have HOWN := hid' (show l.ownBlock ≠ some w.heap.size from fun e => Nat.lt_irrefl _ (hrow.far e).2)
  have HFAR := hid' (fun b (e : l.ownBlock = some b) => (hrow.far e).1)
  have HSZ := hid' (show (w.alloc (.cells #[.int .i64 op, .int .i64 n, .string s, .slice q ks.length c] 24)).heap.size = w.heap.size + 1 by simp)
  obtain ⟨R, hR⟩ : ∃ R, Hid (L ++ Dn.pre (.mk op n s ks) = R) := ⟨_, hid' rfl⟩
  rw [hR.out]
  clear ih hk hc ho hn hs hv hbw hrow hbase hL hz hb0
  go_enter Tryd.func20, Tryd.ntmps20
  go_upto_region 1 with (fail)
  generalize World.alloc _ _ = w1 at *
  obtain ⟨c0, c1, c2, c3⟩ := heap_cells4 HC.out
  go_wp2_with (refine append_core rfl _ _ rfl ok W0 base l L rfl HR.out _ op n s q ks.length c HV.out rfl (by have := HLN.out; omega) (by have := HSZ.out; have := HBASE.out; omega) (fun v' w2 h5 h6 h7 => ?_); refine halt' ?_)
  refine hid' ?_
  have HC2 := hid' ((h6.block _ (lt_of_block HC.out) (fun e => HOWN.out e.symm)).trans HC.out)
  have HJ0 := hid' (And.intro h5 (And.intro h6 h7))
  have HI0 := hid' h5
  obtain ⟨qs0, hq0, hown0, -⟩ := h5
  clear h6 h7 c0 c1 c2 c3 hq0 hown0
  obtain ⟨c0, c1, c2, c3⟩ := heap_cells4 HC2.out
  go_wp2_with fail
  clear c0 c1 c2 c3
  go_loopw [1, 14] (fun lv iv wr => ∃ (i : Nat), iv = .int .i64 (i : Int) ∧ i ≤ ks.length ∧ Hid (TermRow ok W0 base (L ++ (Co.T.mk op n s ks :: Dn.pres (ks.take i))) lv wr ∧ w1.grownBy wr l.ownBlock ∧ Moved w1 l.ownBlock lv.ownBlock)) (fun _ iv _ => ks.length - (intOf iv).toNat)
  case atStart => exact ⟨0, rfl, Nat.zero_le _, hid' ⟨by rw [List.take_zero]; exact HJ0.out.1, HJ0.out.2⟩⟩
  case round =>
    obtain ⟨i, rfl, hi, HJ⟩ := hrel
    have HCR := hid' ((HJ.out.2.1.block _ (lt_of_block HC.out) (fun e => HOWN.out e.symm)).trans HC.out)
    have HBR := hid' (show Below W0.heap.size W0 wr from HBW.out.trans (((HB.out.mono (Nat.le_trans HB0.out HBASE.out))).trans ⟨HJ.out.2.1.os, HJ.out.2.1.tape, HJ.out.2.1.output, HJ.out.2.1.size, fun k hk => HJ.out.2.1.block k (Nat.lt_of_lt_of_le hk (by have := HSZ.out; have := HBASE.out; have := HB0.out; omega)) (fun e => by have := HFAR.out k e.symm; have := HB0.out; omega)⟩))
    obtain ⟨d0, d1, d2, d3⟩ := heap_cells4 HCR.out
    by_cases hik : i < ks.length
    · obtain ⟨u, hu⟩ : ∃ u, ks[i]? = some u := ⟨_, List.getElem?_eq_getElem hik⟩
      obtain ⟨vk, hrw, hvk⟩ := HK.out i u hu
      obtain ⟨b, off, x0, y0, z0, u0, e, hlb, hve, r0, r1, r2, r3⟩ := hrw.keep (fun b h hl => ⟨h, HBR.out.block b hl⟩)
      subst e
      have HKV := hid' hvk
      obtain ⟨pk, ck, rfl, -, -, -, -, -⟩ := hvk.open
      obtain ⟨rfl, rfl, rfl, rfl⟩ : .int .i64 u.op = x0 ∧ .int .i64 u.n = y0 ∧ .string u.s = z0 ∧ .slice pk u.ks.length ck = u0 := by simpa using hve
      have g0 : decide ((i : Int) < (ks.length : Int)) = true := by simp; omega
      have k1 : (0 : Int) ≤ (i : Int) := by omega
      have k2 : (i : Int) < (ks.length : Int) := by omega
      have hiw : IntKind.i64.wrap ((i : Int) + 1) = (i : Int) + 1 := IntWalk.i64_in _ (by have := HZ.out; omega)
      have HUU := hid' hu
      have hba := (Below.refl wr.heap.size wr).alloc (Nat.le_refl _) (.cells #[.int .i64 u.op, .int .i64 u.n, .string u.s, .slice pk u.ks.length ck] 24)
      have hno := heap_alloc_new wr (.cells #[.int .i64 u.op, .int .i64 u.n, .string u.s, .slice pk u.ks.length ck] 24)
      obtain ⟨kop, hkop⟩ : ∃ o, Hid (u.op = o) := ⟨_, hid' rfl⟩
      obtain ⟨kn, hkn⟩ : ∃ o, Hid (u.n = o) := ⟨_, hid' rfl⟩
      obtain ⟨kst, hks⟩ : ∃ o, Hid (u.s = o) := ⟨_, hid' rfl⟩
      obtain ⟨kl, hkl⟩ : ∃ o, Hid (u.ks.length = o) := ⟨_, hid' rfl⟩
      rw [hkop.out, hkn.out, hks.out, hkl.out] at HKV hba hno
      rw [hkop.out] at r0
      rw [hkn.out] at r1
      rw [hks.out] at r2
      rw [hkl.out] at r3
      clear hve hu hrw hvk
      go_upto_region 5 with (fail)
      obtain ⟨kb, hkb⟩ : ∃ kb, kb = wr.heap.size := ⟨_, rfl⟩
      rw [← hkb] at hno ⊢
      clear hkb r0 r1 r2 r3 d0 d1 d2 d3
      have HKB := hid' hno
      have HBA := hid' hba
      clear hba hno
      generalize World.alloc wr _ = w4 at *
      obtain ⟨d0, d1, d2, d3⟩ := heap_cells4 HKB.out
      have hsz1 := HJ.out.2.1.size
      have HTC := hid' (HIH.out u (List.mem_of_getElem? HUU.out) _ u1 _ w4 HKV.out (HBR.out.trans (HBA.out.mono HBR.out.size)) (HJ.out.1.kept HBA.out) (by have := HSZ.out; have := HBASE.out; have := HBA.out.size; omega) (by
        have h1 := Co.sizes_take HUU.out
        have h2 := Co.sizes_take_le ks (i + 1)
        have h3 := HLN.out
        rw [List.length_append, List.length_cons, pres_len]
        omega))
      clear hsz1
      go_wp2_with (first | (go_at_call 20; refine HTC.out.mono ?_; rintro e w5 ⟨v5, rfl, r5, g5, m5⟩))
      have HNX := hid' (show TermRow ok W0 base (L ++ (Co.T.mk op n s ks :: Dn.pres (ks.take (i + 1)))) v5 w5 ∧ w1.grownBy w5 l.ownBlock ∧ Moved w1 l.ownBlock v5.ownBlock from by
        have g4 := grown_comp HJ.out.2.1 HJ.out.2.2 (grown_of_below HBA.out u1.ownBlock)
        refine ⟨?_, grown_comp g4 HJ.out.2.2 g5, HJ.out.2.2.comp g4.size m5⟩
        rw [pres_take HUU.out]
        simpa using r5)
      clear r5 g5 m5 d0 d1 d2 d3
      go_roundw
      case rel => exact ⟨i + 1, by go_num, by omega, HNX⟩
      case measure => simp only [intOf]; omega
    · obtain rfl : i = ks.length := by omega
      have g0 : decide (ks.length < ks.length) = false := by simp
      have HY := hid' (show R = L ++ (Co.T.mk op n s ks :: Dn.pres (ks.take ks.length)) by rw [← hR.out, List.take_length, Dn.pre])
      clear hik
      go_wp2_with fail
      go_ret
      refine ⟨_, rfl, by rw [HY.out]; exact HJ.out.1, grown_comp (grown_of_below HB.out l.ownBlock) (.inl rfl) HJ.out.2.1, ?_⟩
      exact Moved.comp (.inl rfl) (by have := HSZ.out; omega) HJ.out.2.2
end Go.Proofs.YtcpobnknmegkmaaDoor
namespace Go.Proofs.YtcpobnknmegkmaaDoor
open Go.RowKit
open Gen
open Rw
set_option linter.unusedVariables false
set_option linter.unusedSimpArgs false
set_option maxRecDepth 100000
def numBad (n : Int) : Bool := decide (n < -1000000000000000) || decide (1000000000000000 < n)
theorem num_bad (n : Int) : (!(n == Num.clamp n)) = numBad n := by
  unfold numBad
  by_cases h1 : n < -1000000000000000
  · have := Num.clamp_ge n
    rw [decide_eq_true h1, Bool.true_or, Bool.not_eq_true', beq_eq_false_iff_ne]
    omega
  · by_cases h2 : 1000000000000000 < n
    · have := Num.clamp_le n
      rw [decide_eq_true h2, Bool.or_true, Bool.not_eq_true', beq_eq_false_iff_ne]
      omega
    · rw [decide_eq_false h1, decide_eq_false h2, Num.clamp_in (by omega) (by omega)]
      simp
theorem day_bad (d : Int) : (!(decide (0 ≤ d) && decide (d ≤ 73048))) = (decide (d < 0) || decide (73048 < d)) := by
  by_cases h1 : 0 ≤ d
  · by_cases h2 : d ≤ 73048
    · rw [decide_eq_true h1, decide_eq_true h2, decide_eq_false (by omega : ¬ d < 0), decide_eq_false (by omega : ¬ 73048 < d)]; rfl
    · rw [decide_eq_true h1, decide_eq_false h2, decide_eq_false (by omega : ¬ d < 0), decide_eq_true (by omega : 73048 < d)]; rfl
  · rw [decide_eq_false h1, decide_eq_true (by omega : d < 0)]; rfl
set_option maxHeartbeats 8000000 in
theorem refRightFeeds_any (v : Value) (F : List Fd.Feed) (w : World) (h : FeedsAt w v F) : Calls Tryd.prog 13 #[v] w (Gives (.bool (Fd.right F)) w) := by
  obtain ⟨p, c, rfl, ⟨hl1, hl2⟩, hf⟩ := h
  have HF := hid' hf
  have hbig : (F.length : Int) ≤ 9223372036854775807 := by unfold maxLen at hl2; omega
  obtain ⟨R, hR⟩ : ∃ R, Hid (Fd.right F = R) := ⟨_, hid' rfl⟩
  rw [hR.out]
  clear hf hl1 hl2
  by_cases h64 : 64 < F.length
  · have hq := hid' (show R = false by rw [← hR.out, Fd.right_no (F := F) (fun ok => by have := ok.1; omega)])
    have h64i : decide ((64 : Int) < (F.length : Int)) = true := decide_eq_true (by omega)
    have h64n : decide (64 < F.length) = true := decide_eq_true h64
    go_enter Tryd.func13, Tryd.ntmps13
    go_wp2_with fail
    go_ret
    exact ⟨by rw [hq.out]; rfl, Below.refl _ _⟩
  · have h64i : decide ((64 : Int) < (F.length : Int)) = false := decide_eq_false (by omega)
    have h64n : decide (64 < F.length) = false := decide_eq_false h64
    have HLE := hid' (show F.length ≤ 64 by omega)
    clear h64
    go_enter Tryd.func13, Tryd.ntmps13
    go_wp2_with fail
    clear h64i h64n
    have HA0 := hid' (show ∀ j, j < 0 → ∀ f, F[j]? = some f → Fd.FeedOk F j f from fun j hj => by omega)
    go_loopw [3] (fun iv wr => ∃ i : Nat, iv = .int .i64 (i : Int) ∧ i ≤ F.length ∧ Hid (∀ j, j < i → ∀ f, F[j]? = some f → Fd.FeedOk F j f) ∧ Hid (Below w.heap.size w wr)) (fun iv _ => F.length - (intOf iv).toNat)
    case atStart => exact ⟨0, rfl, Nat.zero_le _, HA0, Below.refl _ _⟩
    case round =>
      obtain ⟨i, rfl, hi, HA, HW⟩ := hrel
      by_cases hin : i < F.length
      · obtain ⟨x, hx⟩ : ∃ x, F[i]? = some x := ⟨_, List.getElem?_eq_getElem hin⟩
        obtain ⟨fb, fo, sv, rfl, hfb, ⟨x0, x1⟩, hst, hxs⟩ := HF.out i x hx
        have HKX := hid' (fun W (b : Below wr.heap.size wr W) => And.intro (keep_all (Below.more HW.out b) _ _ x0) (keep_all (Below.more HW.out b) _ _ x1))
        replace x0 := keep_all HW.out _ _ x0
        replace x1 := keep_all HW.out _ _ x1
        have hst2 := hst.below HW.out
        obtain ⟨sp, sc, rfl, ⟨hs1, hs2⟩, hss⟩ := hst2
        have HSS := hid' (show StampsAt wr (.slice sp x.2.length sc) x.2 from ⟨sp, sc, rfl, ⟨hs1, hs2⟩, hss⟩)
        have j1 : (0 : Int) ≤ (i : Int) := by omega
        have j2 : (i : Int) < (F.length : Int) := by omega
        have wi : IntKind.i64.wrap ((i : Int) + 1) = (i : Int) + 1 := IntWalk.i64_in _ (by omega)
        have HX := hid' hx
        have HI := hid' hin
        have HSB := hid' (show x.2.length ≤ maxLen from Nat.le_trans hs1 hs2)
        have HNM := hid' (fun W => refIsName_any x.1 W (by omega))
        obtain ⟨nm, hnm⟩ : ∃ nm, Hid (Led.isName x.1 = nm) := ⟨_, hid' rfl⟩
        rw [hnm.out] at HNM
        clear hst hss hs1 hs2 hx hin hfb hxs
        go_upto_region 8 with (first | (go_at_call 25; refine (HNM.out _).mono ?_; rintro e w8 ⟨rfl, hw8⟩; obtain rfl := hw8.symm))
        clear x0 x1
        obtain ⟨bad, hbad⟩ : ∃ bad, Hid (bad = Fd.headBad F i x) := ⟨_, rfl⟩
        go_cut [51] (fun v wx => v = .bool bad ∧ Hid (Below wr.heap.size wr wx))
        case first =>
          have hb := hid' (show bad = (!Led.isName x.1 || (Fd.prevBad F i x.1 || decide (4096 < x.2.length))) from hbad.out)
          have hlenI : decide ((4096 : Int) < (x.2.length : Int)) = decide (4096 < x.2.length) := by
            by_cases h : 4096 < x.2.length
            · rw [decide_eq_true h, decide_eq_true (by omega)]
            · rw [decide_eq_false h, decide_eq_false (by omega)]
          rw [hnm.out] at hb
          generalize decide (4096 < x.2.length) = ln at *
          have hbx := (Below.refl wr.heap.size wr).drew
          have HK := hid' (fun (W : World) (b : Below wr.heap.size wr W) => And.intro (HKX.out W b).1 (And.intro (HKX.out W b).2 trivial))
          cases nm with
          | false =>
            have hq := hid' (show bad = true from hb.out)
            clear hb
            refine wp_region_keep (fun w' => Below wr.heap.size wr w') (by kernel_rfl) (by kernel_rfl) hbx ?_
            repeat (first
              | (refine wpKeep_skip ?_ ?_
                 · rfl
                 simp only [Act.put, List.setIfInBounds_toArray, List.set_cons_zero, List.set_cons_succ])
              | (apply wpKeep_val
                 · rfl
                 · (intro w hSw; obtain ⟨c0, c1, c3⟩ := HK.out w hSw; first | (go_simp; done) | (go_simp; with_reducible rfl))
                 simp only [Act.put, List.setIfInBounds_toArray, List.set_cons_zero, List.set_cons_succ]))
            refine wpKeep_nil ?_
            intro w' hS'
            go_wp2_with fail
            go_meet
            exact ⟨by rw [hq.out] <;> rfl, hS'⟩
          | true =>
            by_cases hi0 : i = 0
            · subst hi0
              have hq := hid' (show bad = ln from hb.out)
              have g0 : decide ((0 : Int) < ((0 : Nat) : Int)) = false := rfl
              clear hb
              refine wp_region_keep (fun w' => Below wr.heap.size wr w') (by kernel_rfl) (by kernel_rfl) hbx ?_
              repeat (first
                | (refine wpKeep_skip ?_ ?_
                   · rfl
                   simp only [Act.put, List.setIfInBounds_toArray, List.set_cons_zero, List.set_cons_succ])
                | (apply wpKeep_val
                   · rfl
                   · (intro w hSw; obtain ⟨c0, c1, c3⟩ := HK.out w hSw; first | (go_simp; done) | (go_simp; with_reducible rfl))
                   simp only [Act.put, List.setIfInBounds_toArray, List.set_cons_zero, List.set_cons_succ]))
              refine wpKeep_nil ?_
              intro w' hS'
              go_wp2_with fail
              go_meet
              exact ⟨by rw [hq.out] <;> rfl, hS'⟩
            · obtain ⟨j, hj⟩ : ∃ j, i = j + 1 := ⟨i - 1, by omega⟩
              clear wi
              obtain ⟨y, hy⟩ : ∃ y, F[j]? = some y := ⟨_, List.getElem?_eq_getElem (by have := HI.out; omega)⟩
              obtain ⟨fb', fo', sv', e, -, ⟨y0, -⟩, -, -⟩ := HF.out j y hy
              obtain ⟨rfl, rfl⟩ : fb = fb' ∧ fo = fo' := by simpa using e
              have HKY := hid' (fun (W : World) (b : Below wr.heap.size wr W) => keep_all (Below.more HW.out b) _ _ y0)
              have hpv : Hid (Fd.prevBad F i x.1 = !Op.bytesLess y.1.toList x.1.toList) := hid' (by rw [hj]; show (!Fd.lt (Fd.at' F j).1 x.1) = _; rw [Fd.at_eq hy]; rfl)
              have hq := hid' (show bad = (!Op.bytesLess y.1.toList x.1.toList || ln) by rw [hb.out, hpv.out]; rfl)
              have g0 : decide ((0 : Int) < (i : Int)) = true := decide_eq_true (by omega)
              have g0n : decide (0 < i) = true := decide_eq_true (by omega)
              have g5 : (0 : Int) ≤ (j : Int) := by omega
              have g6 : (j : Int) < (F.length : Int) := by have := HI.out; omega
              have g3 : IntKind.i64.wrap (j : Int) = (j : Int) := IntWalk.i64_in _ (by omega)
              have g4 : IntKind.i64.wrap ((i : Int) - 1) = (j : Int) := by rw [IntWalk.i64_in _ (by omega)]; omega
              clear hb hpv hy e y0 hi hj hi0
              cases hlt : Op.bytesLess y.1.toList x.1.toList with
              | true =>
                rw [hlt] at hq
                refine wp_region_keep (fun w' => Below wr.heap.size wr w') (by kernel_rfl) (by kernel_rfl) hbx ?_
                repeat (first
                  | (refine wpKeep_skip ?_ ?_
                     · rfl
                     simp only [Act.put, List.setIfInBounds_toArray, List.set_cons_zero, List.set_cons_succ])
                  | (apply wpKeep_val
                     · rfl
                     · (intro w hSw; obtain ⟨c0, c1, c3⟩ := HK.out w hSw; have cy := HKY.out w hSw; first | (go_simp; done) | (go_simp; with_reducible rfl))
                     simp only [Act.put, List.setIfInBounds_toArray, List.set_cons_zero, List.set_cons_succ]))
                refine wpKeep_nil ?_
                intro w' hS'
                go_wp2_with fail
                go_meet
                exact ⟨by rw [hq.out] <;> rfl, hS'⟩
              | false =>
                rw [hlt] at hq
                refine wp_region_keep (fun w' => Below wr.heap.size wr w') (by kernel_rfl) (by kernel_rfl) hbx ?_
                repeat (first
                  | (refine wpKeep_skip ?_ ?_
                     · rfl
                     simp only [Act.put, List.setIfInBounds_toArray, List.set_cons_zero, List.set_cons_succ])
                  | (apply wpKeep_val
                     · rfl
                     · (intro w hSw; obtain ⟨c0, c1, c3⟩ := HK.out w hSw; have cy := HKY.out w hSw; first | (go_simp; done) | (go_simp; with_reducible rfl))
                     simp only [Act.put, List.setIfInBounds_toArray, List.set_cons_zero, List.set_cons_succ]))
                refine wpKeep_nil ?_
                intro w' hS'
                go_wp2_with fail
                go_meet
                exact ⟨by rw [hq.out] <;> rfl, hS'⟩
        case rest =>
          obtain ⟨rfl, HBC⟩ := hcut
          have HS9 := hid' (HSS.out.below HBC.out)
          have HW9 := hid' (Below.more HW.out HBC.out)
          clear HSS HBC
          cases hbad2 : bad with
          | true =>
            have hno : ¬ Fd.Ok F := fun ok => Fd.head_bad HI.out (hbad.out.symm.trans hbad2) (ok.2 i x HX.out)
            have e := hid' (show R = false by rw [← hR.out, Fd.right_no hno])
            clear hno hbad2
            go_wp2_with fail
            go_ret
            exact ⟨by rw [e.out]; rfl, HW9.out⟩
          | false =>
            have HG := hid' (show Fd.headBad F i x = false from hbad.out.symm.trans hbad2)
            have HST0 := hid' (show ∀ k, k < 0 → ∀ s, x.2[k]? = some s → Fd.StampOk x.2 k s from fun k hk => by omega)
            clear hbad hbad2
            go_wp2_with fail
            go_loopw [6] (fun kv wz => ∃ k : Nat, kv = .int .i64 (k : Int) ∧ k ≤ x.2.length ∧ Hid (∀ m, m < k → ∀ s, x.2[m]? = some s → Fd.StampOk x.2 m s) ∧ Hid (Below wc.heap.size wc wz)) (fun kv _ => x.2.length - (intOf kv).toNat)
            case atStart => exact ⟨0, rfl, Nat.zero_le _, HST0, Below.refl _ _⟩
            case round =>
              obtain ⟨k, rfl, hk, HST, HZ⟩ := hrel
              clear wi
              by_cases hkn : k < x.2.length
              · obtain ⟨z, hz⟩ : ∃ z, x.2[k]? = some z := ⟨_, List.getElem?_eq_getElem hkn⟩
                have HSZ := hid' (HS9.out.below HZ.out)
                obtain ⟨sp', sc', e, -, hss⟩ := HSZ.out
                obtain ⟨rfl, rfl⟩ : sp = sp' ∧ sc = sc' := by simpa using e
                obtain ⟨sb, so, rfl, -, ⟨y0, y1⟩, -, -⟩ := hss k z hz
                have HSS := hid' hss
                have k1 : (0 : Int) ≤ (k : Int) := by omega
                have k2 : (k : Int) < (x.2.length : Int) := by omega
                have HZ1 := hid' hz
                have HKN := hid' hkn
                have wk : IntKind.i64.wrap ((k : Int) + 1) = (k : Int) + 1 := IntWalk.i64_in _ (by have := HSB.out; unfold maxLen at this; omega)
                have HKZ := hid' (fun W (b : Below wr.heap.size wr W) => And.intro (keep_all b _ _ y0) (And.intro (keep_all b _ _ y1) trivial))
                clear e hss hz hkn y0 y1
                go_upto_region 13 with (fail)
                obtain ⟨bad2, hbad⟩ : ∃ bad2, Hid (bad2 = Fd.stampBad x.2 k z) := ⟨_, rfl⟩
                go_cut [105] (fun v wx => v = .bool bad2 ∧ Hid (Below wr.heap.size wr wx))
                case first =>
                  have hb := hid' (show bad2 = ((decide (z.1 < 0) || decide (73048 < z.1)) || (Fd.prevLate x.2 k z.1 || (decide (z.2 < -1000000000000000) || decide (1000000000000000 < z.2)))) by
                    rw [hbad.out]
                    unfold Fd.stampBad
                    rw [num_bad, day_bad]
                    rfl)
                  have hbx := (Below.refl wr.heap.size wr).drew
                  have HK := HKZ
                  obtain ⟨d1, hd1⟩ : ∃ b, decide (z.1 < 0) = b := ⟨_, rfl⟩
                  obtain ⟨d2, hd2⟩ : ∃ b, decide (73048 < z.1) = b := ⟨_, rfl⟩
                  obtain ⟨n1, hn1⟩ : ∃ b, decide (z.2 < -1000000000000000) = b := ⟨_, rfl⟩
                  obtain ⟨n2, hn2⟩ : ∃ b, decide (1000000000000000 < z.2) = b := ⟨_, rfl⟩
                  rw [hd1, hd2, hn1, hn2] at hb
                  cases d1 with
                  | true =>
                    have hq := hid' (show bad2 = true from hb.out)
                    clear hb wk
                    refine wp_region_keep (fun w' => Below wr.heap.size wr w') (by kernel_rfl) (by kernel_rfl) hbx ?_
                    repeat (first
                      | (refine wpKeep_skip ?_ ?_
                         · rfl
                         simp only [Act.put, List.setIfInBounds_toArray, List.set_cons_zero, List.set_cons_succ])
                      | (apply wpKeep_val
                         · rfl
                         · (intro w hSw; obtain ⟨c0, c1, c3⟩ := HK.out w hSw; first | (go_simp; done) | (go_simp; with_reducible rfl))
                         simp only [Act.put, List.setIfInBounds_toArray, List.set_cons_zero, List.set_cons_succ]))
                    refine wpKeep_nil ?_
                    intro w' hS'
                    go_wp2_with fail
                    go_meet
                    exact ⟨by rw [hq.out] <;> rfl, hS'⟩
                  | false =>
                  cases d2 with
                  | true =>
                    have hq := hid' (show bad2 = true from hb.out)
                    clear hb wk
                    refine wp_region_keep (fun w' => Below wr.heap.size wr w') (by kernel_rfl) (by kernel_rfl) hbx ?_
                    repeat (first
                      | (refine wpKeep_skip ?_ ?_
                         · rfl
                         simp only [Act.put, List.setIfInBounds_toArray, List.set_cons_zero, List.set_cons_succ])
                      | (apply wpKeep_val
                         · rfl
                         · (intro w hSw; obtain ⟨c0, c1, c3⟩ := HK.out w hSw; first | (go_simp; done) | (go_simp; with_reducible rfl))
                         simp only [Act.put, List.setIfInBounds_toArray, List.set_cons_zero, List.set_cons_succ]))
                    refine wpKeep_nil ?_
                    intro w' hS'
                    go_wp2_with fail
                    go_meet
                    exact ⟨by rw [hq.out] <;> rfl, hS'⟩
                  | false =>
                    by_cases hk0 : k = 0
                    · have g0 : decide ((0 : Int) < (k : Int)) = false := decide_eq_false (by omega)
                      have g0n : decide (0 < k) = false := decide_eq_false (by omega)
                      have hpv : Hid (Fd.prevLate x.2 k z.1 = false) := hid' (by rw [hk0]; rfl)
                      rw [hpv.out] at hb
                      clear wk hk0 hpv
                      cases n1 with
                      | true =>
                        have hq := hid' (show bad2 = true from hb.out)
                        clear hb
                        refine wp_region_keep (fun w' => Below wr.heap.size wr w') (by kernel_rfl) (by kernel_rfl) hbx ?_
                        repeat (first
                          | (refine wpKeep_skip ?_ ?_
                             · rfl
                             simp only [Act.put, List.setIfInBounds_toArray, List.set_cons_zero, List.set_cons_succ])
                          | (apply wpKeep_val
                             · rfl
                             · (intro w hSw; obtain ⟨c0, c1, c3⟩ := HK.out w hSw; first | (go_simp; done) | (go_simp; with_reducible rfl))
                             simp only [Act.put, List.setIfInBounds_toArray, List.set_cons_zero, List.set_cons_succ]))
                        refine wpKeep_nil ?_
                        intro w' hS'
                        go_wp2_with fail
                        go_meet
                        exact ⟨by rw [hq.out] <;> rfl, hS'⟩
                      | false =>
                        have hq := hid' (show bad2 = n2 from hb.out)
                        clear hb
                        refine wp_region_keep (fun w' => Below wr.heap.size wr w') (by kernel_rfl) (by kernel_rfl) hbx ?_
                        repeat (first
                          | (refine wpKeep_skip ?_ ?_
                             · rfl
                             simp only [Act.put, List.setIfInBounds_toArray, List.set_cons_zero, List.set_cons_succ])
                          | (apply wpKeep_val
                             · rfl
                             · (intro w hSw; obtain ⟨c0, c1, c3⟩ := HK.out w hSw; first | (go_simp; done) | (go_simp; with_reducible rfl))
                             simp only [Act.put, List.setIfInBounds_toArray, List.set_cons_zero, List.set_cons_succ]))
                        refine wpKeep_nil ?_
                        intro w' hS'
                        go_wp2_with fail
                        go_meet
                        exact ⟨by rw [hq.out] <;> rfl, hS'⟩
                    · obtain ⟨m, hm⟩ : ∃ m, k = m + 1 := ⟨k - 1, by omega⟩
                      clear wk
                      obtain ⟨y, hy⟩ : ∃ y, x.2[m]? = some y := ⟨_, List.getElem?_eq_getElem (by have := HKN.out; omega)⟩
                      obtain ⟨sb', so', e, -, ⟨y0, -⟩, -, -⟩ := HSS.out m y hy
                      obtain ⟨rfl, rfl⟩ : sb = sb' ∧ so = so' := by simpa using e
                      have HKY := hid' (fun (W : World) (b : Below wr.heap.size wr W) => keep_all b _ _ y0)
                      have hpv : Hid (Fd.prevLate x.2 k z.1 = decide (z.1 ≤ y.1)) := hid' (by rw [hm]; show decide (z.1 ≤ (Fd.stampAt x.2 m).1) = _; rw [Fd.stampAt_eq hy])
                      rw [hpv.out] at hb
                      have g0 : decide ((0 : Int) < (k : Int)) = true := decide_eq_true (by omega)
                      have g0n : decide (0 < k) = true := decide_eq_true (by omega)
                      have g5 : (0 : Int) ≤ (m : Int) := by omega
                      have g6 : (m : Int) < (x.2.length : Int) := by have := HKN.out; omega
                      have g3 : IntKind.i64.wrap (m : Int) = (m : Int) := IntWalk.i64_in _ (by have := HSB.out; unfold maxLen at this; omega)
                      have g4 : IntKind.i64.wrap ((k : Int) - 1) = (m : Int) := by rw [IntWalk.i64_in _ (by have := HSB.out; unfold maxLen at this; omega)]; omega
                      clear hpv hy e y0 hk hm hk0
                      cases hlt : decide (z.1 ≤ y.1) with
                      | true =>
                        rw [hlt] at hb
                        have hq := hid' (show bad2 = true from hb.out)
                        clear hb
                        refine wp_region_keep (fun w' => Below wr.heap.size wr w') (by kernel_rfl) (by kernel_rfl) hbx ?_
                        repeat (first
                          | (refine wpKeep_skip ?_ ?_
                             · rfl
                             simp only [Act.put, List.setIfInBounds_toArray, List.set_cons_zero, List.set_cons_succ])
                          | (apply wpKeep_val
                             · rfl
                             · (intro w hSw; obtain ⟨c0, c1, c3⟩ := HK.out w hSw; have cy := HKY.out w hSw; first | (go_simp; done) | (go_simp; with_reducible rfl))
                             simp only [Act.put, List.setIfInBounds_toArray, List.set_cons_zero, List.set_cons_succ]))
                        refine wpKeep_nil ?_
                        intro w' hS'
                        go_wp2_with fail
                        go_meet
                        exact ⟨by rw [hq.out] <;> rfl, hS'⟩
                      | false =>
                        rw [hlt] at hb
                        cases n1 with
                        | true =>
                          have hq := hid' (show bad2 = true from hb.out)
                          clear hb
                          refine wp_region_keep (fun w' => Below wr.heap.size wr w') (by kernel_rfl) (by kernel_rfl) hbx ?_
                          repeat (first
                            | (refine wpKeep_skip ?_ ?_
                               · rfl
                               simp only [Act.put, List.setIfInBounds_toArray, List.set_cons_zero, List.set_cons_succ])
                            | (apply wpKeep_val
                               · rfl
                               · (intro w hSw; obtain ⟨c0, c1, c3⟩ := HK.out w hSw; have cy := HKY.out w hSw; first | (go_simp; done) | (go_simp; with_reducible rfl))
                               simp only [Act.put, List.setIfInBounds_toArray, List.set_cons_zero, List.set_cons_succ]))
                          refine wpKeep_nil ?_
                          intro w' hS'
                          go_wp2_with fail
                          go_meet
                          exact ⟨by rw [hq.out] <;> rfl, hS'⟩
                        | false =>
                          have hq := hid' (show bad2 = n2 from hb.out)
                          clear hb
                          refine wp_region_keep (fun w' => Below wr.heap.size wr w') (by kernel_rfl) (by kernel_rfl) hbx ?_
                          repeat (first
                            | (refine wpKeep_skip ?_ ?_
                               · rfl
                               simp only [Act.put, List.setIfInBounds_toArray, List.set_cons_zero, List.set_cons_succ])
                            | (apply wpKeep_val
                               · rfl
                               · (intro w hSw; obtain ⟨c0, c1, c3⟩ := HK.out w hSw; have cy := HKY.out w hSw; first | (go_simp; done) | (go_simp; with_reducible rfl))
                               simp only [Act.put, List.setIfInBounds_toArray, List.set_cons_zero, List.set_cons_succ]))
                          refine wpKeep_nil ?_
                          intro w' hS'
                          go_wp2_with fail
                          go_meet
                          exact ⟨by rw [hq.out] <;> rfl, hS'⟩
                case rest =>
                  obtain ⟨rfl, HBC9⟩ := hcut
                  have HZ9 := hid' (Below.more HZ.out HBC9.out)
                  have HWZ := hid' (Below.more HW9.out HZ9.out)
                  clear HKZ HBC9
                  cases hb2 : bad2 with
                  | true =>
                    have hno : ¬ Fd.Ok F := fun ok => Fd.stamp_bad HKN.out (hbad.out.symm.trans hb2) ((ok.2 i x HX.out).stamps k z HZ1.out)
                    have e := hid' (show R = false by rw [← hR.out, Fd.right_no hno])
                    clear hno hb2 wk
                    go_wp2_with fail
                    go_ret
                    exact ⟨by rw [e.out]; rfl, HWZ.out⟩
                  | false =>
                    have hgood := Fd.stamp_good (hbad.out.symm.trans hb2)
                    have hnext : ∀ m, m < k + 1 → ∀ s, x.2[m]? = some s → Fd.StampOk x.2 m s := fun m hm s hs => by
                      rcases (by omega : m < k ∨ m = k) with h | rfl
                      · exact HST.out m h s hs
                      · obtain rfl : z = s := by have := HZ1.out.symm.trans hs; simpa using this
                        exact hgood
                    have HN := hid' hnext
                    clear hgood hnext hb2
                    go_wp2_with fail
                    go_roundw
                    case rel => exact ⟨k + 1, by go_num, by have := HKN.out; omega, HN, HZ9⟩
                    case measure => have := HKN.out; simp [intOf]; omega
              · obtain rfl : k = x.2.length := by omega
                have hok := Fd.feed_good HG.out (fun m s hm => HST.out m (List.getElem?_eq_some_iff.1 hm).1 s hm)
                have HNX := hid' (show ∀ j, j < i + 1 → ∀ f, F[j]? = some f → Fd.FeedOk F j f from fun j hj f hf => by
                  rcases (by omega : j < i ∨ j = i) with h | rfl
                  · exact HA.out j h f hf
                  · obtain rfl : x = f := by have := HX.out.symm.trans hf; simpa using this
                    exact hok)
                have j3 : decide (x.2.length < x.2.length) = false := by simp
                have wi : IntKind.i64.wrap ((i : Int) + 1) = (i : Int) + 1 := IntWalk.i64_in _ (by omega)
                clear hok hkn
                go_wp2_with fail
                go_roundw
                case rel => exact ⟨i + 1, by go_num, by have := HI.out; omega, HNX, Below.more HW9.out HZ.out⟩
                case measure => have := HI.out; simp [intOf]; omega
      · obtain rfl : i = F.length := by omega
        have e := hid' (show R = true by rw [← hR.out, Fd.right_yes (F := F) ⟨HLE.out, fun j f hj => HA.out j (List.getElem?_eq_some_iff.1 hj).1 f hj⟩])
        have j3 : decide (F.length < F.length) = false := by simp
        clear hin
        go_wp2_with fail
        go_ret
        exact ⟨by rw [e.out]; rfl, HW.out⟩
end Go.Proofs.YtcpobnknmegkmaaDoor
