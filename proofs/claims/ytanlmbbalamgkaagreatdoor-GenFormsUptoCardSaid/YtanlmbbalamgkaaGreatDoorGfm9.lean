/- Proved: lemmas and contracts of the functions that the law reaches, part 9 of 31: GenNum, GenText, GenWait, GenInstr, GenRight, GenRight2. Conditions: as each states. -/
import Derived.Outline
import Derived.BigQuiet
import Derived.BigRegion
import Derived.Deep.QuietTactic
import Derived.Deep.RegionWith
import Derived.StillTailTactics
import Derived.Deep.Cut
import Derived.IntWalk
import Derived.Deep.DeepCutAuto
import Derived.Test.YtanlmbbalamgkaaGreatDoorGfm5
import Derived.Test.YtanlmbbalamgkaaGreatDoorGfm8
namespace Go.Proofs.YtanlmbbalamgkaaGreatDoor
set_option linter.unusedVariables false
set_option linter.unusedSimpArgs false
section
open Go.RowKit
open Gen
set_option maxRecDepth 100000
def CdBox (W : World) (b : Nat) (r : Int) (vw vi : Value) : Prop := W.heap[b]? = some (.cells #[.int .i64 r, vw, vi] 29 (0, 0))
def IxBox (W : World) (b : Nat) (x : Gen.Ix) : Prop := W.heap[b]? = some (.cells #[.int .i64 x.op, .int .i64 x.a, .int .i64 x.b, .int .i64 x.c, .int .i64 x.n, .string x.s, .int .i64 x.to] 73 (0, 0))
theorem two_boxes (W : World) (o1 o2 : Obj) : ((W.alloc o1).alloc o2).heap[W.heap.size]? = some o1 ∧ ((W.alloc o1).alloc o2).heap[(W.alloc o1).heap.size]? = some o2 ∧ Below W.heap.size W ((W.alloc o1).alloc o2) := by
 refine ⟨?_, heap_alloc_new _ _, ((Below.refl W.heap.size W).alloc (Nat.le_refl _) o1).alloc (by simp) o2⟩
 rw [Below.heap_alloc _ _ _ (by simp)]
 exact heap_alloc_new W o1
theorem zzb {W : World} {b : Nat} {xs : Array Value} {t : TypeId} (h : W.heap[b]? = some (.cells xs t (0, 0))) : ∀ i v, xs[i]? = some v → W.cell? ⟨b, i, none⟩ = some v := fun i v hv => by simp [World.cell?, h, hv]
set_option maxHeartbeats 4000000 in
theorem number_any (v : Value) (c : Gen.Cd) (k : Nat) (x : Gen.Ix) (w : World) (h : CdAt w v c) (hx : c.ins[k]? = some x) : Calls Tryz.prog 71 #[v, .int .i64 (k : Int)] w (Gives (.bool (Gen.numOk c (k : Int) x)) w) := by
 obtain ⟨vw, vi, rfl, ⟨pw, cw, rfl, ⟨hw1, hw2⟩, hwc⟩, ⟨pi, ci, rfl, ⟨hi1, hi2⟩, hic⟩, hr⟩ := h
 obtain ⟨ib, io, rfl, hib, ⟨x0, x1, x2, x3, x4, x5, x6⟩, hxf⟩ := hic k x hx
 have hk := (List.getElem?_eq_some_iff.1 hx).1
 have HWC := hid' hwc
 have HB := hid' (two_boxes w (.cells #[.int .i64 c.regs, .slice pw c.waits.length cw, .slice (some ⟨ib, io, none⟩) c.ins.length ci] 29) (.cells #[.int .i64 x.op, .int .i64 x.a, .int .i64 x.b, .int .i64 x.c, .int .i64 x.n, .string x.s, .int .i64 x.to] 73))
 have j1 : (0 : Int) ≤ (k : Int) := by omega
 have j2 : (k : Int) < (c.ins.length : Int) := by omega
 have hw3 : (c.waits.length : Int) ≤ 9223372036854775807 := by unfold maxLen at hw2; omega
 have al := fun (a : Addr) (vv : Value) (hh : w.cell? a = some vv) (o : Obj) => (Below.cell ((Below.refl w.heap.size w).alloc (Nat.le_refl _) o) (World.block_lt_of_cell? _ _ hh)).trans hh
 have y0 := fun o => al _ _ x0 o
 have y1 := fun o => al _ _ x1 o
 have y2 := fun o => al _ _ x2 o
 have y3 := fun o => al _ _ x3 o
 have y4 := fun o => al _ _ x4 o
 have y5 := fun o => al _ _ x5 o
 have y6 := fun o => al _ _ x6 o
 have HNF := hid' hxf.n
 clear hwc hic hx hr hk al hxf
 go_enter Tryz.func71, Tryz.ntmps71
 go_upto_region 2 with (fail)
 obtain ⟨h1, h2, h3⟩ := HB.out
 have e1 : (w.alloc (.cells #[.int .i64 c.regs, .slice pw c.waits.length cw, .slice (some ⟨ib, io, none⟩) c.ins.length ci] 29)).heap.size = w.heap.size + 1 := by simp
 rw [e1] at h2
 have HB2 := hid' h3
 clear x0 x1 x2 x3 x4 x5 x6 y0 y1 y2 y3 y4 y5 y6 e1 h3 HB
 obtain ⟨b1, hb1⟩ : ∃ b1, b1 = w.heap.size + 1 := ⟨_, rfl⟩
 rw [← hb1] at h2 ⊢
 obtain ⟨b0, hb0⟩ : ∃ b0, b0 = w.heap.size := ⟨_, rfl⟩
 have h1' := h1
 rw [← hb0] at h1' ⊢
 clear hb1 hb0 h1
 generalize ((w.alloc (.cells #[.int .i64 c.regs, .slice pw c.waits.length cw, .slice (some ⟨ib, io, none⟩) c.ins.length ci] 29)).alloc (.cells #[.int .i64 x.op, .int .i64 x.a, .int .i64 x.b, .int .i64 x.c, .int .i64 x.n, .string x.s, .int .i64 x.to] 73)) = w2 at *
 have c1 := zzb h1' 1 _ rfl
 have x0 := zzb h2 0 _ rfl
 have x4 := zzb h2 4 _ rfl
 clear h1' h2
 rcases (by omega : x.op = 1 ∨ x.op = 2 ∨ x.op = 3 ∨ x.op = 21 ∨ x.op = 22 ∨ x.op = 28 ∨ x.op = 29 ∨ (x.op ≠ 1 ∧ x.op ≠ 2 ∧ x.op ≠ 3 ∧ x.op ≠ 21 ∧ x.op ≠ 22 ∧ x.op ≠ 28 ∧ x.op ≠ 29)) with hop | hop | hop | hop | hop | hop | hop | hop
 · have q1 : (x.op == 1) = true := by rw [hop]; rfl
   have q2 : (x.op == 2) = false := by rw [hop]; rfl
   have q3 : (x.op == 3) = false := by rw [hop]; rfl
   have q21 : (x.op == 21) = false := by rw [hop]; rfl
   have q22 : (x.op == 22) = false := by rw [hop]; rfl
   have q28 : (x.op == 28) = false := by rw [hop]; rfl
   have q29 : (x.op == 29) = false := by rw [hop]; rfl
   have HM := hid' (show numOk c (k : Int) x = within x.n (-1000000000000000) 1000000000000000 from by unfold numOk; simp [hop])
   by_cases h1 : (-1000000000000000) ≤ x.n
   · have g1 : decide ((-1000000000000000) ≤ x.n) = true := decide_eq_true h1
     have HV := hid' (show within x.n (-1000000000000000) 1000000000000000 = decide (x.n ≤ 1000000000000000) by unfold within; rw [g1, Bool.true_and])
     clear h1 hop
     go_wp2_with fail
     go_ret
     refine ⟨?_, HB2.out⟩
     rw [HM.out, HV.out]
     rfl
   · have g1 : decide ((-1000000000000000) ≤ x.n) = false := decide_eq_false h1
     have HV := hid' (show within x.n (-1000000000000000) 1000000000000000 = false by unfold within; rw [g1, Bool.false_and])
     clear h1 hop
     go_wp2_with fail
     go_ret
     refine ⟨?_, HB2.out⟩
     rw [HM.out, HV.out]
     rfl
 · have q1 : (x.op == 1) = false := by rw [hop]; rfl
   have q2 : (x.op == 2) = true := by rw [hop]; rfl
   have q3 : (x.op == 3) = false := by rw [hop]; rfl
   have q21 : (x.op == 21) = false := by rw [hop]; rfl
   have q22 : (x.op == 22) = false := by rw [hop]; rfl
   have q28 : (x.op == 28) = false := by rw [hop]; rfl
   have q29 : (x.op == 29) = false := by rw [hop]; rfl
   have HM := hid' (show numOk c (k : Int) x = within x.n (0) 3660 from by unfold numOk; simp [hop])
   by_cases h1 : (0) ≤ x.n
   · have g1 : decide ((0) ≤ x.n) = true := decide_eq_true h1
     have HV := hid' (show within x.n (0) 3660 = decide (x.n ≤ 3660) by unfold within; rw [g1, Bool.true_and])
     clear h1 hop
     go_wp2_with fail
     go_ret
     refine ⟨?_, HB2.out⟩
     rw [HM.out, HV.out]
     rfl
   · have g1 : decide ((0) ≤ x.n) = false := decide_eq_false h1
     have HV := hid' (show within x.n (0) 3660 = false by unfold within; rw [g1, Bool.false_and])
     clear h1 hop
     go_wp2_with fail
     go_ret
     refine ⟨?_, HB2.out⟩
     rw [HM.out, HV.out]
     rfl
 · have q1 : (x.op == 1) = false := by rw [hop]; rfl
   have q2 : (x.op == 2) = false := by rw [hop]; rfl
   have q3 : (x.op == 3) = true := by rw [hop]; rfl
   have q21 : (x.op == 21) = false := by rw [hop]; rfl
   have q22 : (x.op == 22) = false := by rw [hop]; rfl
   have q28 : (x.op == 28) = false := by rw [hop]; rfl
   have q29 : (x.op == 29) = false := by rw [hop]; rfl
   have HM := hid' (show numOk c (k : Int) x = within x.n (0) 3660 from by unfold numOk; simp [hop])
   by_cases h1 : (0) ≤ x.n
   · have g1 : decide ((0) ≤ x.n) = true := decide_eq_true h1
     have HV := hid' (show within x.n (0) 3660 = decide (x.n ≤ 3660) by unfold within; rw [g1, Bool.true_and])
     clear h1 hop
     go_wp2_with fail
     go_ret
     refine ⟨?_, HB2.out⟩
     rw [HM.out, HV.out]
     rfl
   · have g1 : decide ((0) ≤ x.n) = false := decide_eq_false h1
     have HV := hid' (show within x.n (0) 3660 = false by unfold within; rw [g1, Bool.false_and])
     clear h1 hop
     go_wp2_with fail
     go_ret
     refine ⟨?_, HB2.out⟩
     rw [HM.out, HV.out]
     rfl
 · have q1 : (x.op == 1) = false := by rw [hop]; rfl
   have q2 : (x.op == 2) = false := by rw [hop]; rfl
   have q3 : (x.op == 3) = false := by rw [hop]; rfl
   have q21 : (x.op == 21) = true := by rw [hop]; rfl
   have q22 : (x.op == 22) = false := by rw [hop]; rfl
   have q28 : (x.op == 28) = false := by rw [hop]; rfl
   have q29 : (x.op == 29) = false := by rw [hop]; rfl
   have HM := hid' (show numOk c (k : Int) x = within x.n (0) 73048 from by unfold numOk; simp [hop])
   by_cases h1 : (0) ≤ x.n
   · have g1 : decide ((0) ≤ x.n) = true := decide_eq_true h1
     have HV := hid' (show within x.n (0) 73048 = decide (x.n ≤ 73048) by unfold within; rw [g1, Bool.true_and])
     clear h1 hop
     go_wp2_with fail
     go_ret
     refine ⟨?_, HB2.out⟩
     rw [HM.out, HV.out]
     rfl
   · have g1 : decide ((0) ≤ x.n) = false := decide_eq_false h1
     have HV := hid' (show within x.n (0) 73048 = false by unfold within; rw [g1, Bool.false_and])
     clear h1 hop
     go_wp2_with fail
     go_ret
     refine ⟨?_, HB2.out⟩
     rw [HM.out, HV.out]
     rfl
 · have q1 : (x.op == 1) = false := by rw [hop]; rfl
   have q2 : (x.op == 2) = false := by rw [hop]; rfl
   have q3 : (x.op == 3) = false := by rw [hop]; rfl
   have q21 : (x.op == 21) = false := by rw [hop]; rfl
   have q22 : (x.op == 22) = true := by rw [hop]; rfl
   have q28 : (x.op == 28) = false := by rw [hop]; rfl
   have q29 : (x.op == 29) = false := by rw [hop]; rfl
   have HM := hid' (show numOk c (k : Int) x = within x.n (0) 73048 from by unfold numOk; simp [hop])
   by_cases h1 : (0) ≤ x.n
   · have g1 : decide ((0) ≤ x.n) = true := decide_eq_true h1
     have HV := hid' (show within x.n (0) 73048 = decide (x.n ≤ 73048) by unfold within; rw [g1, Bool.true_and])
     clear h1 hop
     go_wp2_with fail
     go_ret
     refine ⟨?_, HB2.out⟩
     rw [HM.out, HV.out]
     rfl
   · have g1 : decide ((0) ≤ x.n) = false := decide_eq_false h1
     have HV := hid' (show within x.n (0) 73048 = false by unfold within; rw [g1, Bool.false_and])
     clear h1 hop
     go_wp2_with fail
     go_ret
     refine ⟨?_, HB2.out⟩
     rw [HM.out, HV.out]
     rfl
 · have q1 : (x.op == 1) = false := by rw [hop]; rfl
   have q2 : (x.op == 2) = false := by rw [hop]; rfl
   have q3 : (x.op == 3) = false := by rw [hop]; rfl
   have q21 : (x.op == 21) = false := by rw [hop]; rfl
   have q22 : (x.op == 22) = false := by rw [hop]; rfl
   have q28 : (x.op == 28) = true := by rw [hop]; rfl
   have q29 : (x.op == 29) = false := by rw [hop]; rfl
   have HM := hid' (show numOk c (k : Int) x = within x.n 0 (c.waits.length - 1) from by unfold numOk; simp [hop])
   by_cases h1 : 0 ≤ x.n
   · have g1 : decide (0 ≤ x.n) = true := decide_eq_true h1
     have HV := hid' (show within x.n 0 (c.waits.length - 1) = decide (x.n < (c.waits.length : Int)) by unfold within; rw [g1, Bool.true_and]; exact decide_eq_decide.2 (by omega))
     clear h1 hop
     go_wp2_with fail
     go_ret
     refine ⟨?_, HB2.out⟩
     rw [HM.out, HV.out]
     rfl
   · have g1 : decide (0 ≤ x.n) = false := decide_eq_false h1
     have HV := hid' (show within x.n 0 (c.waits.length - 1) = false by unfold within; rw [g1, Bool.false_and])
     clear h1 hop
     go_wp2_with fail
     go_ret
     refine ⟨?_, HB2.out⟩
     rw [HM.out, HV.out]
     rfl
 · have q1 : (x.op == 1) = false := by rw [hop]; rfl
   have q2 : (x.op == 2) = false := by rw [hop]; rfl
   have q3 : (x.op == 3) = false := by rw [hop]; rfl
   have q21 : (x.op == 21) = false := by rw [hop]; rfl
   have q22 : (x.op == 22) = false := by rw [hop]; rfl
   have q28 : (x.op == 28) = false := by rw [hop]; rfl
   have q29 : (x.op == 29) = true := by rw [hop]; rfl
   have HM := hid' (show numOk c (k : Int) x = (within x.n 0 (c.waits.length - 1) && decide ((k : Int) < entryAt c x.n)) from by unfold numOk; simp [hop])
   by_cases h1 : 0 ≤ x.n
   · have g1 : decide (0 ≤ x.n) = true := decide_eq_true h1
     by_cases h2 : x.n < (c.waits.length : Int)
     · have g2 : decide (x.n < (c.waits.length : Int)) = true := decide_eq_true h2
       obtain ⟨wt, hwt⟩ : ∃ wt, c.waits[x.n.toNat]? = some wt := ⟨_, List.getElem?_eq_getElem (by omega)⟩
       obtain ⟨wb, wo, rfl, hwb, ⟨z0, _⟩, _⟩ := HWC.out _ _ hwt
       have z := (HB2.out.cell (p := ⟨wb, wo + x.n.toNat * 5, none⟩) hwb).trans z0
       have HV := hid' (show (within x.n 0 (c.waits.length - 1) && decide ((k : Int) < entryAt c x.n)) = decide ((k : Int) < wt.entry) by
         have e1 : within x.n 0 (c.waits.length - 1) = true := by unfold within; rw [g1, Bool.true_and]; exact decide_eq_true (by omega)
         rw [e1, Bool.true_and]
         unfold entryAt
         rw [hwt])
       clear hop z0 hwt
       go_wp2_with fail
       go_ret
       refine ⟨?_, HB2.out⟩
       rw [HM.out, HV.out]
       rfl
     · have g2 : decide (x.n < (c.waits.length : Int)) = false := decide_eq_false h2
       have HV := hid' (show (within x.n 0 (c.waits.length - 1) && decide ((k : Int) < entryAt c x.n)) = false by
         have e1 : within x.n 0 (c.waits.length - 1) = false := by unfold within; rw [g1, Bool.true_and]; exact decide_eq_false (by omega)
         rw [e1, Bool.false_and])
       clear h1 h2 hop
       go_wp2_with fail
       go_ret
       refine ⟨?_, HB2.out⟩
       rw [HM.out, HV.out]
       rfl
   · have g1 : decide (0 ≤ x.n) = false := decide_eq_false h1
     have HV := hid' (show (within x.n 0 (c.waits.length - 1) && decide ((k : Int) < entryAt c x.n)) = false by
       have e1 : within x.n 0 (c.waits.length - 1) = false := by unfold within; rw [g1, Bool.false_and]
       rw [e1, Bool.false_and])
     clear h1 hop
     go_wp2_with fail
     go_ret
     refine ⟨?_, HB2.out⟩
     rw [HM.out, HV.out]
     rfl
 · have q1 : (x.op == 1) = false := by rw [beq_eq_false_iff_ne]; omega
   have q2 : (x.op == 2) = false := by rw [beq_eq_false_iff_ne]; omega
   have q3 : (x.op == 3) = false := by rw [beq_eq_false_iff_ne]; omega
   have q21 : (x.op == 21) = false := by rw [beq_eq_false_iff_ne]; omega
   have q22 : (x.op == 22) = false := by rw [beq_eq_false_iff_ne]; omega
   have q28 : (x.op == 28) = false := by rw [beq_eq_false_iff_ne]; omega
   have q29 : (x.op == 29) = false := by rw [beq_eq_false_iff_ne]; omega
   have HM := hid' (show numOk c (k : Int) x = (x.n == 0) from by unfold numOk; simp [hop]; rfl)
   clear hop
   go_wp2_with fail
   go_ret
   refine ⟨?_, HB2.out⟩
   rw [HM.out]
   rfl
end
section
open Go.RowKit
open Gen
set_option maxRecDepth 100000
set_option maxHeartbeats 2000000 in
theorem text_any (x : Gen.Ix) (w : World) (hs : x.s.size ≤ 2000000) : Calls Tryz.prog 72 #[.agg #[.int .i64 x.op, .int .i64 x.a, .int .i64 x.b, .int .i64 x.c, .int .i64 x.n, .string x.s, .int .i64 x.to]] w (Gives (.bool (Gen.textOk x)) w) := by
 have HB := hid' (show Below w.heap.size w (w.alloc (.cells #[.int .i64 x.op, .int .i64 x.a, .int .i64 x.b, .int .i64 x.c, .int .i64 x.n, .string x.s, .int .i64 x.to] 73)) from (Below.refl _ _).alloc (Nat.le_refl _) _)
 have HX := hid' (show IxBox (w.alloc (.cells #[.int .i64 x.op, .int .i64 x.a, .int .i64 x.b, .int .i64 x.c, .int .i64 x.n, .string x.s, .int .i64 x.to] 73)) w.heap.size x from heap_alloc_new w _)
 have HIN := hid' (fun W => refIsName_any x.s W (by omega))
 have HIC := hid' (fun W => refIsCur_any x.s W (by omega))
 clear hs
 go_enter Tryz.func72, Tryz.ntmps72
 go_upto_region 1 with (fail)
 obtain ⟨b, hb⟩ : ∃ b, b = w.heap.size := ⟨_, rfl⟩
 rw [← hb] at HX ⊢
 clear hb
 generalize w.alloc (.cells #[.int .i64 x.op, .int .i64 x.a, .int .i64 x.b, .int .i64 x.c, .int .i64 x.n, .string x.s, .int .i64 x.to] 73) = w2 at *
 have x0 := zzb HX.out 0 _ rfl
 have x5 := zzb HX.out 5 _ rfl
 go_wp2_with fail
 refine (HIN.out w2).mono ?_
 rintro e w3 ⟨rfl, rfl⟩
 go_wp2_with fail
 refine (HIC.out w3).mono ?_
 rintro e w4 ⟨rfl, rfl⟩
 generalize hN : Led.isName x.s = bn at *
 generalize hC : Led.isCur x.s = bc at *
 have HN := hid' hN
 have HC := hid' hC
 clear hN hC
 rcases (by omega : x.op = 2 ∨ x.op = 27 ∨ (x.op ≠ 2 ∧ x.op ≠ 27)) with hop | hop | hop
 · have q2 : (x.op == 2) = true := by rw [hop]; rfl
   have HM := hid' (show textOk x = Led.isName x.s by unfold textOk; rw [if_pos hop])
   clear hop
   go_wp2_with fail
   go_ret
   refine ⟨?_, HB.out⟩
   rw [HM.out, HN.out]
   rfl
 · have q2 : (x.op == 2) = false := by rw [hop]; rfl
   have q27 : (x.op == 27) = true := by rw [hop]; rfl
   have HM := hid' (show textOk x = Led.isCur x.s by unfold textOk; rw [if_neg (by omega), if_pos hop])
   clear hop
   go_wp2_with fail
   go_ret
   refine ⟨?_, HB.out⟩
   rw [HM.out, HC.out]
   rfl
 · have q2 : (x.op == 2) = false := by rw [beq_eq_false_iff_ne]; omega
   have q27 : (x.op == 27) = false := by rw [beq_eq_false_iff_ne]; omega
   by_cases hs : x.s = ⟨#[]⟩
   · have HM := hid' (show textOk x = true by unfold textOk; rw [if_neg hop.1, if_neg hop.2]; exact decide_eq_true hs)
     rw [hs] at x5
     clear hop
     go_wp2_with fail
     go_ret
     refine ⟨?_, HB.out⟩
     rw [HM.out]
     rfl
   · have HM := hid' (show textOk x = false by unfold textOk; rw [if_neg hop.1, if_neg hop.2]; exact decide_eq_false hs)
     have hnl : x.s.toList.isEmpty = false := zzv hs
     clear hop hs
     go_wp2_with fail
     go_ret
     refine ⟨?_, HB.out⟩
     rw [HM.out]
     rfl
set_option maxHeartbeats 2000000 in
theorem place_any (v : Value) (c : Gen.Cd) (n : Int) (w : World) (h : CdAt w v c) : Calls Tryz.prog 66 #[v, .int .i64 n] w (Gives (.bool (Gen.place c n)) w) := by
 obtain ⟨vw, vi, rfl, ⟨pw, cw, rfl, _⟩, ⟨pi, ci, rfl, _⟩, hr⟩ := h
 have HB := hid' (show Below w.heap.size w (w.alloc (.cells #[.int .i64 c.regs, .slice pw c.waits.length cw, .slice pi c.ins.length ci] 29)) from (Below.refl _ _).alloc (Nat.le_refl _) _)
 have HX := hid' (show CdBox (w.alloc (.cells #[.int .i64 c.regs, .slice pw c.waits.length cw, .slice pi c.ins.length ci] 29)) w.heap.size c.regs _ _ from heap_alloc_new w _)
 go_enter Tryz.func66, Tryz.ntmps66
 go_upto_region 1 with (fail)
 obtain ⟨b, hb⟩ : ∃ b, b = w.heap.size := ⟨_, rfl⟩
 rw [← hb] at HX ⊢
 clear hb
 generalize w.alloc (.cells #[.int .i64 c.regs, .slice pw c.waits.length cw, .slice pi c.ins.length ci] 29) = w2 at *
 have x2 := zzb HX.out 2 _ rfl
 by_cases h1 : 0 ≤ n
 · have g1 : decide (0 ≤ n) = true := decide_eq_true h1
   have HM := hid' (show Gen.place c n = decide (n < (c.ins.length : Int)) by unfold Gen.place; rw [g1, Bool.true_and])
   clear h1
   go_wp2_with fail
   go_ret
   refine ⟨?_, HB.out⟩
   rw [HM.out]
   rfl
 · have g1 : decide (0 ≤ n) = false := decide_eq_false h1
   have HM := hid' (show Gen.place c n = false by unfold Gen.place; rw [g1, Bool.false_and])
   clear h1
   go_wp2_with fail
   go_ret
   refine ⟨?_, HB.out⟩
   rw [HM.out]
   rfl
end
section
open Go.RowKit
open Gen
set_option maxRecDepth 100000
def WtBox (W : World) (b : Nat) (x : Gen.Wt) : Prop := W.heap[b]? = some (.cells #[.int .i64 x.entry, .int .i64 x.day, .string x.label, .int .i64 x.first, .int .i64 x.second] 76 (0, 0))
structure WSt (w : World) (b0 b1 : Nat) (vw vi : Value) (c : Gen.Cd) (x : Gen.Wt) (W : World) : Prop where
 bel : Below w.heap.size w W
 cb : CdBox W b0 c.regs vw vi
 xb : WtBox W b1 x
 cd : CdAt W (.agg #[.int .i64 c.regs, vw, vi]) c
theorem zzd {W W' : World} {b : Nat} {o : Obj} (B : Below W.heap.size W W') (h : W.heap[b]? = some o) : W'.heap[b]? = some o := (B.block b (zzc h)).trans h
theorem WSt.below {w : World} {b0 b1 : Nat} {vw vi : Value} {c : Gen.Cd} {x : Gen.Wt} {W W' : World} (h : WSt w b0 b1 vw vi c x W) (B : Below W.heap.size W W') : WSt w b0 b1 vw vi c x W' :=
 ⟨Below.more h.bel B, zzd B h.cb, zzd B h.xb, h.cd.below B⟩
set_option maxHeartbeats 4000000 in
theorem wait_any (v : Value) (c : Gen.Cd) (x : Gen.Wt) (w : World) (h : CdAt w v c) (hl : x.label.size ≤ 2000000) :
   Calls Tryz.prog 37 #[v, .agg #[.int .i64 x.entry, .int .i64 x.day, .string x.label, .int .i64 x.first, .int .i64 x.second]] w (Gives (.bool (Gen.waitOk c x)) w) := by
 have hcd := h
 obtain ⟨vw, vi, rfl, ⟨pw, cw, rfl, _⟩, ⟨pi, ci, rfl, _⟩, hr⟩ := h
 obtain ⟨t1, t2, t3⟩ := two_boxes w (.cells #[.int .i64 c.regs, .slice pw c.waits.length cw, .slice pi c.ins.length ci] 29) (.cells #[.int .i64 x.entry, .int .i64 x.day, .string x.label, .int .i64 x.first, .int .i64 x.second] 76)
 have e1 : (w.alloc (.cells #[.int .i64 c.regs, .slice pw c.waits.length cw, .slice pi c.ins.length ci] 29)).heap.size = w.heap.size + 1 := by simp
 rw [e1] at t2
 have HS := hid' (show WSt w w.heap.size (w.heap.size + 1) _ _ c x _ from ⟨t3, t1, t2, hcd.below t3⟩)
 have HIN := hid' (fun W => refIsName_any x.label W (by omega))
 clear hcd t1 t2 t3 e1 hl
 go_enter Tryz.func37, Tryz.ntmps37
 go_upto_region 1 with (fail)
 obtain ⟨b1, hb1⟩ : ∃ b1, b1 = w.heap.size + 1 := ⟨_, rfl⟩
 rw [← hb1] at HS ⊢
 obtain ⟨b0, hb0⟩ : ∃ b0, b0 = w.heap.size := ⟨_, rfl⟩
 have HS1 := hid' (show WSt w b0 b1 _ _ c x _ by rw [hb0]; exact HS.out)
 rw [← hb0]
 clear hb1 hb0 HS
 generalize ((w.alloc (.cells #[.int .i64 c.regs, .slice pw c.waits.length cw, .slice pi c.ins.length ci] 29)).alloc (.cells #[.int .i64 x.entry, .int .i64 x.day, .string x.label, .int .i64 x.first, .int .i64 x.second] 76)) = w2 at *
 have c0 := zzb HS1.out.cb 0 _ rfl
 have c1 := zzb HS1.out.cb 1 _ rfl
 have c2 := zzb HS1.out.cb 2 _ rfl
 have x0 := zzb HS1.out.xb 0 _ rfl
 go_wp2_with fail
 refine (place_any _ c x.entry w2 HS1.out.cd).mono ?_
 rintro e w3 ⟨rfl, b3⟩
 have HS2 := hid' (HS1.out.below b3)
 clear b3 c0 c1 c2 x0 HS1
 have x1 := zzb HS2.out.xb 1 _ rfl
 have x2 := zzb HS2.out.xb 2 _ rfl
 have x3 := zzb HS2.out.xb 3 _ rfl
 have x4 := zzb HS2.out.xb 4 _ rfl
 have c0 := zzb HS2.out.cb 0 _ rfl
 have c1 := zzb HS2.out.cb 1 _ rfl
 have c2 := zzb HS2.out.cb 2 _ rfl
 have hW : waitOk c x = (Gen.place c x.entry && (decide (0 ≤ x.day) && (decide (x.day ≤ 73048) && (if x.label = ⟨#[]⟩ then decide (x.first = 0) && decide (x.second = 0) else Led.isName x.label && (Gen.place c x.first && Gen.place c x.second))))) := by
   unfold waitOk within; rw [Bool.and_assoc]
 cases hp : Gen.place c x.entry with
 | false =>
   rw [hp, Bool.false_and] at hW
   have HW := hid' hW
   clear hW hp
   go_wp2_with fail
   go_ret
   refine ⟨?_, HS2.out.bel⟩
   rw [HW.out]
   rfl
 | true =>
   rw [hp, Bool.true_and] at hW
   clear hp
   by_cases h1 : x.day < 0
   · have g1 : decide (x.day < 0) = true := decide_eq_true h1
     rw [decide_eq_false (show ¬ 0 ≤ x.day by omega), Bool.false_and] at hW
     have HW := hid' hW
     clear hW h1
     go_wp2_with fail
     go_ret
     refine ⟨?_, HS2.out.bel⟩
     rw [HW.out]
     rfl
   · have g1 : decide (x.day < 0) = false := decide_eq_false h1
     rw [decide_eq_true (show 0 ≤ x.day by omega), Bool.true_and] at hW
     by_cases h2 : 73048 < x.day
     · have g2 : decide (73048 < x.day) = true := decide_eq_true h2
       rw [decide_eq_false (show ¬ x.day ≤ 73048 by omega), Bool.false_and] at hW
       have HW := hid' hW
       clear hW h1 h2
       go_wp2_with fail
       go_ret
       refine ⟨?_, HS2.out.bel⟩
       rw [HW.out]
       rfl
     · have g2 : decide (73048 < x.day) = false := decide_eq_false h2
       rw [decide_eq_true (show x.day ≤ 73048 by omega), Bool.true_and] at hW
       clear h1 h2
       by_cases hlb : x.label = ⟨#[]⟩
       · rw [if_pos hlb] at hW
         rw [hlb] at x2
         by_cases hf : x.first = 0
         · have q1 : (x.first == 0) = true := by rw [hf]; rfl
           have HW := hid' (show waitOk c x = (x.second == 0) by rw [hW, decide_eq_true hf, Bool.true_and]; rfl)
           clear hW hlb hf
           go_wp2_with fail
           go_ret
           refine ⟨?_, HS2.out.bel⟩
           rw [HW.out]
           rfl
         · have q1 : (x.first == 0) = false := by rw [beq_eq_false_iff_ne]; exact hf
           have HW := hid' (show waitOk c x = false by rw [hW, decide_eq_false hf, Bool.false_and])
           clear hW hlb hf
           go_wp2_with fail
           go_ret
           refine ⟨?_, HS2.out.bel⟩
           rw [HW.out]
           rfl
       · rw [if_neg hlb] at hW
         have hnl : x.label.toList.isEmpty = false := zzv hlb
         have HW := hid' hW
         clear hW hlb
         go_wp2_with fail
         refine (HIN.out w3).mono ?_
         rintro e w4 ⟨rfl, rfl⟩
         go_wp2_with fail
         refine (place_any _ c x.first w4 HS2.out.cd).mono ?_
         rintro e w5 ⟨rfl, b5⟩
         have HS3 := hid' (HS2.out.below b5)
         clear b5 c0 c1 c2 x1 x2 x3 x4
         have x4 := zzb HS3.out.xb 4 _ rfl
         have c0 := zzb HS3.out.cb 0 _ rfl
         have c1 := zzb HS3.out.cb 1 _ rfl
         have c2 := zzb HS3.out.cb 2 _ rfl
         go_wp2_with fail
         refine (place_any _ c x.second w5 HS3.out.cd).mono ?_
         rintro e w6 ⟨rfl, b6⟩
         have HS4 := hid' (HS3.out.below b6)
         clear b6 c0 c1 c2 x4
         generalize Led.isName x.label = bn at *
         generalize Gen.place c x.first = bf at *
         generalize Gen.place c x.second = bs at *
         cases bn <;> cases bf
         all_goals
           go_wp2_with fail
           go_ret
           refine ⟨?_, HS4.out.bel⟩
           rw [HW.out]
           rfl
end
section
open Go.RowKit
open Gen
set_option maxRecDepth 100000
structure ISt (w : World) (b0 b1 : Nat) (vw vi : Value) (c : Gen.Cd) (x : Gen.Ix) (W : World) : Prop where
 bel : Below w.heap.size w W
 cb : CdBox W b0 c.regs vw vi
 xb : IxBox W b1 x
 cd : CdAt W (.agg #[.int .i64 c.regs, vw, vi]) c
theorem ISt.below {w : World} {b0 b1 : Nat} {vw vi : Value} {c : Gen.Cd} {x : Gen.Ix} {W W' : World} (h : ISt w b0 b1 vw vi c x W) (B : Below W.heap.size W W') : ISt w b0 b1 vw vi c x W' :=
 ⟨Below.more h.bel B, zzd B h.cb, zzd B h.xb, h.cd.below B⟩
theorem usesT_size (op : Int) : (Gen.usesT op).size ≤ 1000 := by
 rcases op_cases op with rfl | rfl | rfl | rfl | rfl | rfl | rfl | rfl | rfl | rfl | rfl | rfl | rfl | rfl | rfl | rfl | rfl | rfl | rfl | rfl | rfl | rfl | rfl | rfl | rfl | rfl | rfl | rfl | rfl | rfl | h
 all_goals first
   | decide
   | (rw [usesT_no h]; decide)
theorem ins_and (c : Gen.Cd) (k : Int) (x : Gen.Ix) : insOk c k x = (isOp x.op && (fld (useA x.op) x.a c.regs && (fld (useB x.op) x.b c.regs && (fld (useC x.op) x.c c.regs && (numOk c k x && (textOk x && toOk c k x)))))) := by
 unfold insOk isOp
 generalize decide (1 ≤ x.op) = p1
 generalize decide (x.op ≤ 30) = p2
 generalize fld (useA x.op) x.a c.regs = p3
 generalize fld (useB x.op) x.b c.regs = p4
 generalize fld (useC x.op) x.c c.regs = p5
 generalize toOk c k x = p6
 generalize numOk c k x = p7
 generalize textOk x = p8
 cases p1 <;> cases p2 <;> cases p3 <;> cases p4 <;> cases p5 <;> cases p6 <;> cases p7 <;> cases p8 <;> rfl
set_option maxHeartbeats 8000000 in
theorem instr_any (v : Value) (c : Gen.Cd) (k : Nat) (x : Gen.Ix) (w : World) (h : CdAt w v c) (hx : c.ins[k]? = some x) : Calls Tryz.prog 38 #[v, .int .i64 (k : Int)] w (Gives (.bool (Gen.insOk c (k : Int) x)) w) := by
 have hcd := h
 obtain ⟨vw, vi, rfl, ⟨pw, cw, rfl, _⟩, ⟨pi, ci, rfl, ⟨hi1, hi2⟩, hic⟩, hr⟩ := h
 obtain ⟨ib, io, rfl, hib, ⟨x0, x1, x2, x3, x4, x5, x6⟩, hxf⟩ := hic k x hx
 have hk := (List.getElem?_eq_some_iff.1 hx).1
 obtain ⟨t1, t2, t3⟩ := two_boxes w (.cells #[.int .i64 c.regs, .slice pw c.waits.length cw, .slice (some ⟨ib, io, none⟩) c.ins.length ci] 29) (.cells #[.int .i64 x.op, .int .i64 x.a, .int .i64 x.b, .int .i64 x.c, .int .i64 x.n, .string x.s, .int .i64 x.to] 73)
 have e1 : (w.alloc (.cells #[.int .i64 c.regs, .slice pw c.waits.length cw, .slice (some ⟨ib, io, none⟩) c.ins.length ci] 29)).heap.size = w.heap.size + 1 := by simp
 rw [e1] at t2
 have HS := hid' (show ISt w w.heap.size (w.heap.size + 1) _ _ c x _ from ⟨t3, t1, t2, hcd.below t3⟩)
 have j1 : (0 : Int) ≤ (k : Int) := by omega
 have j2 : (k : Int) < (c.ins.length : Int) := by omega
 have al := fun (a : Addr) (vv : Value) (hh : w.cell? a = some vv) (o : Obj) => (Below.cell ((Below.refl w.heap.size w).alloc (Nat.le_refl _) o) (World.block_lt_of_cell? _ _ hh)).trans hh
 have y0 := fun o => al _ _ x0 o
 have y1 := fun o => al _ _ x1 o
 have y2 := fun o => al _ _ x2 o
 have y3 := fun o => al _ _ x3 o
 have y4 := fun o => al _ _ x4 o
 have y5 := fun o => al _ _ x5 o
 have y6 := fun o => al _ _ x6 o
 have HKX := hid' (And.intro hx hxf)
 have HU := hid' (fun W => uses_any x.op W)
 obtain ⟨u1, u2, u3, u4⟩ := uses_has x.op
 have HUS := hid' (usesT_size x.op)
 have HH := hid' (fun (n : Nat) (W : World) => (has_any (usesT x.op) n W HUS.out).mono (fun e w' h => (⟨h.1, 0, h.2⟩ : e = .returned (.bool (hasB (usesT x.op) n)) ∧ ∃ m, w' = W.drewN m)))
 have HA := hid' (fun (W : World) => show Calls Tryz.prog 70 #[.string (usesT x.op), .int .u8 65] W (fun e w' => e = .returned (.bool (useA x.op)) ∧ ∃ m, w' = W.drewN m) by rw [← u1]; exact HH.out 65 W)
 have HB := hid' (fun (W : World) => show Calls Tryz.prog 70 #[.string (usesT x.op), .int .u8 66] W (fun e w' => e = .returned (.bool (useB x.op)) ∧ ∃ m, w' = W.drewN m) by rw [← u2]; exact HH.out 66 W)
 have HC := hid' (fun (W : World) => show Calls Tryz.prog 70 #[.string (usesT x.op), .int .u8 67] W (fun e w' => e = .returned (.bool (useC x.op)) ∧ ∃ m, w' = W.drewN m) by rw [← u3]; exact HH.out 67 W)
 have HT := hid' (fun (W : World) => show Calls Tryz.prog 70 #[.string (usesT x.op), .int .u8 84] W (Ret (.bool (useT x.op)) W) by rw [← u4]; exact has_any (usesT x.op) 84 W HUS.out)
 have HG := hid' (fun (n : Int) (b : Bool) (W : World) => (register_any n b c.regs W).mono (fun e w' h => (⟨h.1, 0, h.2⟩ : e = .returned (.bool (fld b n c.regs)) ∧ ∃ m, w' = W.drewN m)))
 clear hcd t1 t2 t3 e1 hic hx hr hk al hxf u1 u2 u3 u4
 go_enter Tryz.func38, Tryz.ntmps38
 go_upto_region 2 with (fail)
 obtain ⟨b1, hb1⟩ : ∃ b1, b1 = w.heap.size + 1 := ⟨_, rfl⟩
 rw [← hb1] at HS ⊢
 obtain ⟨b0, hb0⟩ : ∃ b0, b0 = w.heap.size := ⟨_, rfl⟩
 have HS1 := hid' (show ISt w b0 b1 _ _ c x _ by rw [hb0]; exact HS.out)
 rw [← hb0]
 clear hb1 hb0 HS x0 x1 x2 x3 x4 x5 x6 y0 y1 y2 y3 y4 y5 y6
 generalize ((w.alloc (.cells #[.int .i64 c.regs, .slice pw c.waits.length cw, .slice (some ⟨ib, io, none⟩) c.ins.length ci] 29)).alloc (.cells #[.int .i64 x.op, .int .i64 x.a, .int .i64 x.b, .int .i64 x.c, .int .i64 x.n, .string x.s, .int .i64 x.to] 73)) = w2 at *
 have x0 := zzb HS1.out.xb 0 _ rfl
 go_wp2_with fail
 refine (HU.out w2).mono ?_
 rintro e w3 ⟨rfl, rfl⟩
 clear x0
 have x1 := zzb HS1.out.xb 1 _ rfl
 have c0 := zzb HS1.out.cb 0 _ rfl
 go_upto_region 3 with (fail)
 go_quiet (first | (go_at_call 70; exact Calls.quiet_of (HA.out _)) | (go_at_call 69; exact Calls.quiet_of (HG.out _ _ _)))
 obtain ⟨m0, hm0⟩ : ∃ m, m = nq := ⟨_, rfl⟩
 have HS2 := hid' (HS1.out.below (Below.drewn (Below.refl _ _) nq))
 clear x1 c0
 generalize World.drewN w3 nq = w4 at *
 have x1 := zzb HS2.out.xb 2 _ rfl
 have c0 := zzb HS2.out.cb 0 _ rfl
 go_upto_region 4 with (fail)
 go_quiet (first | (go_at_call 70; exact Calls.quiet_of (HB.out _)) | (go_at_call 69; exact Calls.quiet_of (HG.out _ _ _)))
 obtain ⟨m1, hm1⟩ : ∃ m, m = nq := ⟨_, rfl⟩
 have HS3 := hid' (HS2.out.below (Below.drewn (Below.refl _ _) nq))
 clear x1 c0
 generalize World.drewN w4 nq = w5 at *
 have x1 := zzb HS3.out.xb 3 _ rfl
 have c0 := zzb HS3.out.cb 0 _ rfl
 go_upto_region 5 with (fail)
 go_quiet (first | (go_at_call 70; exact Calls.quiet_of (HC.out _)) | (go_at_call 69; exact Calls.quiet_of (HG.out _ _ _)))
 obtain ⟨m2, hm2⟩ : ∃ m, m = nq := ⟨_, rfl⟩
 have HS4 := hid' (HS3.out.below (Below.drewn (Below.refl _ _) nq))
 clear x1 c0
 generalize World.drewN w5 nq = w6 at *
 have c0 := zzb HS4.out.cb 0 _ rfl
 have c1 := zzb HS4.out.cb 1 _ rfl
 have c2 := zzb HS4.out.cb 2 _ rfl
 go_wp2_with fail
 refine (number_any _ c k x w6 HS4.out.cd HKX.out.1).mono ?_
 rintro e w7 ⟨rfl, b7⟩
 have HS5 := hid' (HS4.out.below b7)
 clear c0 c1 c2 b7
 have x0 := zzb HS5.out.xb 0 _ rfl
 have x1 := zzb HS5.out.xb 1 _ rfl
 have x2 := zzb HS5.out.xb 2 _ rfl
 have x3 := zzb HS5.out.xb 3 _ rfl
 have x4 := zzb HS5.out.xb 4 _ rfl
 have x5 := zzb HS5.out.xb 5 _ rfl
 have x6 := zzb HS5.out.xb 6 _ rfl
 go_wp2_with fail
 refine (text_any x w7 HKX.out.2.s).mono ?_
 rintro e w8 ⟨rfl, b8⟩
 have HS7 := hid' (HS5.out.below b8)
 clear x0 x1 x2 x3 x4 x5 x6 b8
 go_wp2_with fail
 refine (HT.out w8).mono ?_
 rintro e w9 ⟨rfl, rfl⟩
 have x6 := zzb HS7.out.xb 6 _ rfl
 have c2 := zzb HS7.out.cb 2 _ rfl
 have hW := ins_and c (k : Int) x
 have HTO := hid' (show toOk c (k : Int) x = if useT x.op then decide ((k : Int) < x.to) && decide (x.to < (c.ins.length : Int)) else decide (x.to = 0) from rfl)
 generalize toOk c (k : Int) x = pto at *
 generalize useT x.op = ut at *
 generalize isOp x.op = p1 at *
 generalize fld (useA x.op) x.a c.regs = p2 at *
 generalize fld (useB x.op) x.b c.regs = p3 at *
 generalize fld (useC x.op) x.c c.regs = p4 at *
 generalize numOk c (k : Int) x = p5 at *
 generalize textOk x = p6 at *
 cases p1 with
 | false =>
   rw [Bool.false_and] at hW
   have HW := hid' hW
   clear hW
   go_wp2_with fail
   go_ret
   refine ⟨?_, HS7.out.bel⟩
   rw [HW.out]
   rfl
 | true =>
   rw [Bool.true_and] at hW
   cases p2 with
   | false =>
     rw [Bool.false_and] at hW
     have HW := hid' hW
     clear hW
     go_wp2_with fail
     go_ret
     refine ⟨?_, HS7.out.bel⟩
     rw [HW.out]
     rfl
   | true =>
     rw [Bool.true_and] at hW
     cases p3 with
     | false =>
       rw [Bool.false_and] at hW
       have HW := hid' hW
       clear hW
       go_wp2_with fail
       go_ret
       refine ⟨?_, HS7.out.bel⟩
       rw [HW.out]
       rfl
     | true =>
       rw [Bool.true_and] at hW
       cases p4 with
       | false =>
         rw [Bool.false_and] at hW
         have HW := hid' hW
         clear hW
         go_wp2_with fail
         go_ret
         refine ⟨?_, HS7.out.bel⟩
         rw [HW.out]
         rfl
       | true =>
         rw [Bool.true_and] at hW
         cases p5 with
         | false =>
           rw [Bool.false_and] at hW
           have HW := hid' hW
           clear hW
           go_wp2_with fail
           go_ret
           refine ⟨?_, HS7.out.bel⟩
           rw [HW.out]
           rfl
         | true =>
           rw [Bool.true_and] at hW
           cases p6 with
           | false =>
             rw [Bool.false_and] at hW
             have HW := hid' hW
             clear hW
             go_wp2_with fail
             go_ret
             refine ⟨?_, HS7.out.bel⟩
             rw [HW.out]
             rfl
           | true =>
             rw [Bool.true_and] at hW
             cases ut with
             | false =>
               have HW := hid' (show insOk c (k : Int) x = (x.to == 0) by rw [hW, HTO.out]; rfl)
               clear hW
               go_wp2_with fail
               go_ret
               refine ⟨?_, HS7.out.bel⟩
               rw [HW.out]
               rfl
             | true =>
               by_cases h1 : (k : Int) < x.to
               · have g1 : decide ((k : Int) < x.to) = true := decide_eq_true h1
                 have HW := hid' (show insOk c (k : Int) x = decide (x.to < (c.ins.length : Int)) by rw [hW, HTO.out, if_pos rfl, g1, Bool.true_and])
                 clear hW h1
                 by_cases h2 : x.to < (c.ins.length : Int)
                 · have g2 : decide (x.to < (c.ins.length : Int)) = true := decide_eq_true h2
                   rw [g2] at HW
                   clear h2
                   go_wp2_with fail
                   go_ret
                   refine ⟨?_, HS7.out.bel⟩
                   rw [HW.out]
                   rfl
                 · have g2 : decide (x.to < (c.ins.length : Int)) = false := decide_eq_false h2
                   rw [g2] at HW
                   clear h2
                   go_wp2_with fail
                   go_ret
                   refine ⟨?_, HS7.out.bel⟩
                   rw [HW.out]
                   rfl
               · have g1 : decide ((k : Int) < x.to) = false := decide_eq_false h1
                 have HW := hid' (show insOk c (k : Int) x = false by rw [hW, HTO.out, if_pos rfl, g1, Bool.false_and])
                 clear hW h1
                 go_wp2_with fail
                 go_ret
                 refine ⟨?_, HS7.out.bel⟩
                 rw [HW.out]
                 rfl
end
section
open Go.RowKit
open Gen
set_option maxRecDepth 100000
structure RSt (w : World) (b0 : Nat) (vw vi : Value) (c : Gen.Cd) (W : World) : Prop where
 bel : Below w.heap.size w W
 cb : CdBox W b0 c.regs vw vi
 cd : CdAt W (.agg #[.int .i64 c.regs, vw, vi]) c
theorem RSt.below {w : World} {b0 : Nat} {vw vi : Value} {c : Gen.Cd} {W W' : World} (h : RSt w b0 vw vi c W) (B : Below W.heap.size W W') : RSt w b0 vw vi c W' :=
 ⟨Below.more h.bel B, zzd B h.cb, h.cd.below B⟩
theorem right_head {c : Gen.Cd} (h : c.regs < 0 ∨ 256 < c.regs ∨ 250 < c.waits.length ∨ c.ins.length < 1 ∨ 16384 < c.ins.length ∨ lastOp c.ins ≠ 30) : right c = false := by
 cases hr : right c with
 | false => rfl
 | true => obtain ⟨h1, h2, h3, h4, h5, _⟩ := right_parts hr; omega
theorem right_wait {c : Gen.Cd} {x : Gen.Wt} {i : Nat} (hx : c.waits[i]? = some x) (h : waitOk c x = false) : right c = false := by
 cases hr : right c with
 | false => rfl
 | true => obtain ⟨_, _, _, _, _, h6, _⟩ := right_parts hr; rw [h6 x (List.mem_of_getElem? hx)] at h; cases h
theorem right_ins {c : Gen.Cd} {x : Gen.Ix} {i : Nat} (hx : c.ins[i]? = some x) (h : insOk c (i : Int) x = false) : right c = false := by
 cases hr : right c with
 | false => rfl
 | true => obtain ⟨_, _, _, _, _, _, h7⟩ := right_parts hr; rw [h7 i x hx] at h; cases h
theorem right_all {c : Gen.Cd} (h1 : 0 ≤ c.regs ∧ c.regs ≤ 256) (h2 : c.waits.length ≤ 250) (h3 : 1 ≤ c.ins.length) (h4 : c.ins.length ≤ 16384) (h5 : lastOp c.ins = 30) (h6 : ∀ (i : Nat) x, c.waits[i]? = some x → waitOk c x = true) (h7 : ∀ (i : Nat) x, c.ins[i]? = some x → insOk c (i : Int) x = true) : right c = true := by
 unfold right within
 simp only [Bool.and_eq_true, decide_eq_true_eq, List.all_eq_true]
 refine ⟨h1, h2, h3, h4, h5, fun x hx => ?_, fun p hp => ?_⟩
 · obtain ⟨i, hi⟩ := List.getElem?_of_mem hx
   exact h6 i x hi
 · obtain ⟨i, hi⟩ := List.getElem?_of_mem hp
   rw [List.getElem?_zipIdx] at hi
   obtain ⟨y, hy, rfl⟩ := Option.map_eq_some_iff.1 hi
   simpa using h7 i y hy
theorem lastOp_at {l : List Gen.Ix} {x : Gen.Ix} (h : l[l.length - 1]? = some x) : lastOp l = x.op := by
 unfold lastOp; rw [List.getLast?_eq_getElem?, h]
end
section
open Go.RowKit
open Gen
set_option maxRecDepth 100000
theorem CdAt.insCells {W : World} {r : Int} {vw : Value} {pi : Option Addr} {n ci : Nat} {c : Gen.Cd} (h : CdAt W (.agg #[.int .i64 r, vw, .slice pi n ci]) c) {i : Nat} {x : Gen.Ix} (hx : c.ins[i]? = some x) : ∃ b off, pi = some ⟨b, off, none⟩ ∧ W.cell? ⟨b, off + i * 7, none⟩ = some (.int .i64 x.op) := by
 obtain ⟨vw', vi', e, _, ⟨p, cc, e2, _, hic⟩, _⟩ := h
 simp only [Value.agg.injEq, Array.mk.injEq, List.cons.injEq, and_true] at e
 obtain ⟨_, _, e3⟩ := e
 rw [e2] at e3
 obtain ⟨rfl, _, _⟩ := Value.slice.inj e3
 obtain ⟨b, off, e4, _, ⟨h0, _⟩, _⟩ := hic i x hx
 exact ⟨b, off, e4, h0⟩
theorem CdAt.waitCells {W : World} {r : Int} {vi : Value} {pw : Option Addr} {n cw : Nat} {c : Gen.Cd} (h : CdAt W (.agg #[.int .i64 r, .slice pw n cw, vi]) c) {i : Nat} {x : Gen.Wt} (hx : c.waits[i]? = some x) : ∃ b off, pw = some ⟨b, off, none⟩ ∧ (W.cell? ⟨b, off + i * 5, none⟩ = some (.int .i64 x.entry) ∧ W.cell? ⟨b, off + i * 5 + 1, none⟩ = some (.int .i64 x.day) ∧ W.cell? ⟨b, off + i * 5 + 2, none⟩ = some (.string x.label) ∧ W.cell? ⟨b, off + i * 5 + 3, none⟩ = some (.int .i64 x.first) ∧ W.cell? ⟨b, off + i * 5 + 4, none⟩ = some (.int .i64 x.second)) ∧ WtFits x := by
 obtain ⟨vw', vi', e, ⟨p, cc, e2, _, hic⟩, _, _⟩ := h
 simp only [Value.agg.injEq, Array.mk.injEq, List.cons.injEq, and_true] at e
 obtain ⟨_, e3, _⟩ := e
 rw [e2] at e3
 obtain ⟨rfl, _, _⟩ := Value.slice.inj e3
 obtain ⟨b, off, e4, _, hcells, hf⟩ := hic i x hx
 exact ⟨b, off, e4, hcells, hf⟩
set_option maxHeartbeats 8000000 in
theorem refRight_any (v : Value) (c : Gen.Cd) (w : World) (h : CdAt w v c) : Calls Tryz.prog 16 #[v] w (Gives (.bool (Gen.right c)) w) := by
 have hcd := h
 obtain ⟨vw, vi, rfl, ⟨pw, cw, rfl, ⟨hw1, hw2⟩, _⟩, ⟨pi, ci, rfl, ⟨hi1, hi2⟩, _⟩, hr⟩ := h
 have B0 := (Below.refl w.heap.size w).alloc (Nat.le_refl _) (.cells #[.int .i64 c.regs, .slice pw c.waits.length cw, .slice pi c.ins.length ci] 29)
 have HS := hid' (show RSt w w.heap.size _ _ c _ from ⟨B0, heap_alloc_new w _, hcd.below B0⟩)
 have hi3 : (c.ins.length : Int) ≤ 9223372036854775807 := by unfold maxLen at hi2; omega
 have hw3 : (c.waits.length : Int) ≤ 9223372036854775807 := by unfold maxLen at hw2; omega
 have HIN := hid' hi3
 have HWN := hid' hw3
 clear hcd B0 hi2 hw2 hi3 hw3
 go_enter Tryz.func16, Tryz.ntmps16
 go_upto_region 1 with (fail)
 obtain ⟨b0, hb0⟩ : ∃ b0, b0 = w.heap.size := ⟨_, rfl⟩
 rw [← hb0] at HS ⊢
 clear hb0
 generalize w.alloc (.cells #[.int .i64 c.regs, .slice pw c.waits.length cw, .slice pi c.ins.length ci] 29) = w2 at *
 have c0 := zzb HS.out.cb 0 _ rfl
 have c1 := zzb HS.out.cb 1 _ rfl
 have c2 := zzb HS.out.cb 2 _ rfl
 have HBAD := hid' (fun hh => right_head (c := c) hh)
 by_cases h1 : c.regs < 0
 · have g1 : decide (c.regs < 0) = true := decide_eq_true h1
   have HW := hid' (HBAD.out (.inl h1))
   clear h1
   go_wp2_with fail
   go_ret
   refine ⟨?_, HS.out.bel⟩
   rw [HW.out]
   rfl
 have g1 : decide (c.regs < 0) = false := decide_eq_false h1
 by_cases h2 : 256 < c.regs
 · have g2 : decide (256 < c.regs) = true := decide_eq_true h2
   have HW := hid' (HBAD.out (.inr (.inl h2)))
   clear h1 h2
   go_wp2_with fail
   go_ret
   refine ⟨?_, HS.out.bel⟩
   rw [HW.out]
   rfl
 have g2 : decide (256 < c.regs) = false := decide_eq_false h2
 by_cases h3 : 250 < c.waits.length
 · have g3 : decide (250 < c.waits.length) = true := decide_eq_true h3
   have g3i : decide ((250 : Int) < (c.waits.length : Int)) = true := decide_eq_true (by omega)
   have HW := hid' (HBAD.out (.inr (.inr (.inl h3))))
   clear h1 h2 h3
   go_wp2_with fail
   go_ret
   refine ⟨?_, HS.out.bel⟩
   rw [HW.out]
   rfl
 have g3 : decide (250 < c.waits.length) = false := decide_eq_false h3
 by_cases h4 : c.ins.length < 1
 · have HW := hid' (HBAD.out (.inr (.inr (.inr (.inl h4)))))
   have hz : c.ins = [] := List.length_eq_zero_iff.1 (by omega)
   have g4 : decide ((c.ins.length : Int) < 1) = true := decide_eq_true (by omega)
   have g4n : decide (c.ins.length < 1) = true := decide_eq_true h4
   have g4z : decide (c.ins = []) = true := decide_eq_true hz
   have g4y : decide (c.ins.length = 0) = true := decide_eq_true (by omega)
   have g3i : decide ((250 : Int) < (c.waits.length : Int)) = false := decide_eq_false (by omega)
   rw [hz] at c2
   clear h1 h2 h3 h4
   go_wp2_with fail
   go_ret
   refine ⟨?_, HS.out.bel⟩
   rw [HW.out]
   rfl
 have g3i : decide ((250 : Int) < (c.waits.length : Int)) = false := decide_eq_false (by omega)
 have hnz : ¬ c.ins = [] := fun e => by rw [e] at h4; simp at h4
 have g4 : decide ((c.ins.length : Int) < 1) = false := decide_eq_false (by omega)
 have g4n : decide (c.ins.length < 1) = false := decide_eq_false h4
 have g4z : decide (c.ins = []) = false := decide_eq_false hnz
 have g4y : decide (c.ins.length = 0) = false := decide_eq_false (by omega)
 by_cases h5 : 16384 < c.ins.length
 · have g5 : decide (16384 < c.ins.length) = true := decide_eq_true h5
   have g5i : decide ((16384 : Int) < (c.ins.length : Int)) = true := decide_eq_true (by omega)
   have HW := hid' (HBAD.out (.inr (.inr (.inr (.inr (.inl h5))))))
   clear h1 h2 h3 h4 h5 hnz
   go_wp2_with fail
   go_ret
   refine ⟨?_, HS.out.bel⟩
   rw [HW.out]
   rfl
 have g5 : decide (16384 < c.ins.length) = false := decide_eq_false h5
 have g5i : decide ((16384 : Int) < (c.ins.length : Int)) = false := decide_eq_false (by omega)
 obtain ⟨y, hy⟩ : ∃ y, c.ins[c.ins.length - 1]? = some y := ⟨_, List.getElem?_eq_getElem (by omega)⟩
 have hlast := lastOp_at hy
 obtain ⟨ib, io, rfl, z0⟩ := HS.out.cd.insCells hy
 have v1 : IntKind.i64.wrap ((c.ins.length : Int) - 1) = (c.ins.length : Int) - 1 := IntWalk.i64_in _ (by omega)
 have v2 : (0 : Int) ≤ (c.ins.length : Int) - 1 := by omega
 have v3 : (1 : Int) ≤ (c.ins.length : Int) := by omega
 have v4 : (c.ins.length : Int) - 1 < (c.ins.length : Int) := by omega
 have v5 : ((c.ins.length : Int) - 1).toNat = c.ins.length - 1 := by omega
 by_cases h6 : y.op = 30
 case neg =>
   have q1 : (y.op == 30) = false := by rw [beq_eq_false_iff_ne]; exact h6
   have q2 : (y.op != 30) = true := by rw [bne_iff_ne]; exact h6
   have HW := hid' (HBAD.out (.inr (.inr (.inr (.inr (.inr (by rw [hlast]; exact h6)))))))
   clear h1 h2 h3 h4 h5 h6 hnz hy hlast
   go_wp2_with fail
   go_ret
   refine ⟨?_, HS.out.bel⟩
   rw [HW.out]
   rfl
 have q1 : (y.op == 30) = true := by rw [h6]; rfl
 have q2 : (y.op != 30) = false := by rw [h6]; rfl
 have HHEAD := hid' (show (0 ≤ c.regs ∧ c.regs ≤ 256) ∧ c.waits.length ≤ 250 ∧ 1 ≤ c.ins.length ∧ c.ins.length ≤ 16384 ∧ lastOp c.ins = 30 from ⟨⟨by omega, by omega⟩, by omega, by omega, by omega, by rw [hlast]; exact h6⟩)
 have HW0 := hid' (show ∀ j, j < 0 → ∀ x, c.waits[j]? = some x → waitOk c x = true from fun j hj => by omega)
 clear h1 h2 h3 h4 h5 h6 hnz hy hlast
 go_wp2_with fail
 go_loopw [4] (fun iv wr => ∃ i : Nat, iv = .int .i64 (i : Int) ∧ i ≤ c.waits.length ∧ Hid (∀ j, j < i → ∀ x, c.waits[j]? = some x → waitOk c x = true) ∧ Hid (RSt w b0 (.slice pw c.waits.length cw) (.slice (some ⟨ib, io, none⟩) c.ins.length ci) c wr)) (fun iv _ => c.waits.length - (intOf iv).toNat)
 case atStart => exact ⟨0, rfl, Nat.zero_le _, HW0, HS⟩
 case round =>
   obtain ⟨i, rfl, hi, HA, HR⟩ := hrel
   clear c0 c1 c2 z0
   have c0 := zzb HR.out.cb 0 _ rfl
   have c1 := zzb HR.out.cb 1 _ rfl
   have c2 := zzb HR.out.cb 2 _ rfl
   by_cases hin : i < c.waits.length
   · obtain ⟨x, hx⟩ : ∃ x, c.waits[i]? = some x := ⟨_, List.getElem?_eq_getElem hin⟩
     obtain ⟨wb, wo, rfl, ⟨y0, y1, y2, y3, y4⟩, hwf⟩ := HR.out.cd.waitCells hx
     have hwn := HWN.out
     have j1 : (0 : Int) ≤ (i : Int) := by omega
     have j2 : (i : Int) < (c.waits.length : Int) := by omega
     have wi : IntKind.i64.wrap ((i : Int) + 1) = (i : Int) + 1 := IntWalk.i64_in _ (by omega)
     have HX := hid' (And.intro hx hwf)
     have HI := hid' hin
     clear hx hwf hin
     go_upto_region 7 with (fail)
     go_still_tail 6, (by kernel_rfl)
     change wpList _ _ _ _ _ wr.drew
     go_wp2_with fail
     refine (wait_any _ c x _ (HR.out.below ((Below.refl _ _).drew)).cd HX.out.2.label).mono ?_
     rintro e w5 ⟨rfl, b5⟩
     have HR2 := hid' ((HR.out.below ((Below.refl _ _).drew)).below b5)
     clear b5 c0 c1 c2 y0 y1 y2 y3 y4
     cases hok : waitOk c x with
     | false =>
       have HW := hid' (right_wait HX.out.1 hok)
       clear hok
       go_wp2_with fail
       go_ret
       refine ⟨?_, HR2.out.bel⟩
       rw [HW.out]
       rfl
     | true =>
       have HA2 := hid' (show ∀ j, j < i + 1 → ∀ z, c.waits[j]? = some z → waitOk c z = true from fun j hj z hz => by
         rcases Nat.lt_or_ge j i with h1 | h1
         · exact HA.out j h1 z hz
         · obtain rfl : j = i := by omega
           have := HX.out.1
           rw [hz] at this
           cases this
           exact hok)
       clear hok
       go_wp2_with fail
       go_roundw
       case rel => exact ⟨i + 1, by go_num, by have := HI.out; omega, HA2, HR2⟩
       case measure => have := HI.out; simp [intOf]; omega
   · obtain rfl : i = c.waits.length := by omega
     have g9 : decide (c.waits.length < c.waits.length) = false := by simp
     have HI0 := hid' (show ∀ (j : Nat), j < 0 → ∀ x, c.ins[j]? = some x → insOk c (j : Int) x = true from fun j hj => by omega)
     clear hin
     go_wp2_with fail
     go_loopw [6] (fun iv wz => ∃ i : Nat, iv = .int .i64 (i : Int) ∧ i ≤ c.ins.length ∧ Hid (∀ (j : Nat), j < i → ∀ x, c.ins[j]? = some x → insOk c (j : Int) x = true) ∧ Hid (RSt w b0 (.slice pw c.waits.length cw) (.slice (some ⟨ib, io, none⟩) c.ins.length ci) c wz)) (fun iv _ => c.ins.length - (intOf iv).toNat)
     case atStart => exact ⟨0, rfl, Nat.zero_le _, HI0, HR⟩
     case round =>
       obtain ⟨i, rfl, hi, HJ, HV⟩ := hrel
       clear c0 c1 c2
       have c0 := zzb HV.out.cb 0 _ rfl
       have c1 := zzb HV.out.cb 1 _ rfl
       have c2 := zzb HV.out.cb 2 _ rfl
       by_cases hin : i < c.ins.length
       · obtain ⟨x, hx⟩ : ∃ x, c.ins[i]? = some x := ⟨_, List.getElem?_eq_getElem hin⟩
         have hwn := HIN.out
         have j1 : (0 : Int) ≤ (i : Int) := by omega
         have j2 : (i : Int) < (c.ins.length : Int) := by omega
         have wi : IntKind.i64.wrap ((i : Int) + 1) = (i : Int) + 1 := IntWalk.i64_in _ (by omega)
         have g8 : decide (i < c.ins.length) = true := decide_eq_true hin
         have HX := hid' hx
         have HI := hid' hin
         clear hx hin
         go_wp2_with fail
         refine (instr_any _ c i x _ HV.out.cd HX.out).mono ?_
         rintro e w6 ⟨rfl, b6⟩
         have HR2 := hid' (HV.out.below b6)
         clear b6 c0 c1 c2
         cases hok : insOk c (i : Int) x with
         | false =>
           have HW := hid' (right_ins HX.out hok)
           clear hok
           go_wp2_with fail
           go_ret
           refine ⟨?_, HR2.out.bel⟩
           rw [HW.out]
           rfl
         | true =>
           have HA2 := hid' (show ∀ (j : Nat), j < i + 1 → ∀ z, c.ins[j]? = some z → insOk c (j : Int) z = true from fun j hj z hz => by
             rcases Nat.lt_or_ge j i with h1 | h1
             · exact HJ.out j h1 z hz
             · obtain rfl : j = i := by omega
               have := HX.out
               rw [hz] at this
               cases this
               exact hok)
           clear hok
           go_wp2_with fail
           go_roundw
           case rel => exact ⟨i + 1, by go_num, by have := HI.out; omega, HA2, HR2⟩
           case measure => have := HI.out; simp [intOf]; omega
       · obtain rfl : i = c.ins.length := by omega
         have g8 : decide (c.ins.length < c.ins.length) = false := by simp
         obtain ⟨k1, k2, k3, k4, k5⟩ := HHEAD.out
         have HW := hid' (right_all k1 k2 k3 k4 k5 (fun j x hx => HA.out j (List.getElem?_eq_some_iff.1 hx).1 x hx) (fun j x hx => HJ.out j (List.getElem?_eq_some_iff.1 hx).1 x hx))
         clear hin k1 k2 k3 k4 k5
         go_wp2_with fail
         go_ret
         refine ⟨?_, HV.out.bel⟩
         rw [HW.out]
         rfl
end
end Go.Proofs.YtanlmbbalamgkaaGreatDoor
