/- Proved: the reference's number, as a contract: is an instruction's N what its operation asks? -/
import Derived.Test.YtiejoapnljkjdaaGreatDoorGenHas
import Derived.Test.YtiejoapnljkjdaaGreatDoorGenMem
import Derived.Outline
import Derived.BigQuiet
import Derived.BigRegion
import Derived.Deep.QuietTactic
import Derived.Deep.RegionWith
import Derived.StillTailTactics
import Derived.Deep.Cut
import Derived.IntWalk
namespace Go.Proofs.YtiejoapnljkjdaaGreatDoor
open Go.RowKit
open Gen
set_option linter.unusedVariables false
set_option linter.unusedSimpArgs false
set_option maxRecDepth 100000
def CdBox (W : World) (b : Nat) (r : Int) (vw vi : Value) : Prop := W.heap[b]? = some (.cells #[.int .i64 r, vw, vi] 25 (0, 0))
def IxBox (W : World) (b : Nat) (x : Gen.Ix) : Prop := W.heap[b]? = some (.cells #[.int .i64 x.op, .int .i64 x.a, .int .i64 x.b, .int .i64 x.c, .int .i64 x.n, .string x.s, .int .i64 x.to] 53 (0, 0))
theorem two_boxes (W : World) (o1 o2 : Obj) : ((W.alloc o1).alloc o2).heap[W.heap.size]? = some o1 ∧ ((W.alloc o1).alloc o2).heap[(W.alloc o1).heap.size]? = some o2 ∧ Below W.heap.size W ((W.alloc o1).alloc o2) := by
  refine ⟨?_, heap_alloc_new _ _, ((Below.refl W.heap.size W).alloc (Nat.le_refl _) o1).alloc (by simp) o2⟩
  rw [Below.heap_alloc _ _ _ (by simp)]
  exact heap_alloc_new W o1
theorem bcells {W : World} {b : Nat} {xs : Array Value} {t : TypeId} (h : W.heap[b]? = some (.cells xs t (0, 0))) : ∀ i v, xs[i]? = some v → W.cell? ⟨b, i, none⟩ = some v := fun i v hv => by simp [World.cell?, h, hv]
set_option maxHeartbeats 4000000 in
theorem number_any (v : Value) (c : Gen.Cd) (k : Nat) (x : Gen.Ix) (w : World) (h : CdAt w v c) (hx : c.ins[k]? = some x) : Calls Tryz.prog 49 #[v, .int .i64 (k : Int)] w (Gives (.bool (Gen.numOk c (k : Int) x)) w) := by
  obtain ⟨vw, vi, rfl, ⟨pw, cw, rfl, ⟨hw1, hw2⟩, hwc⟩, ⟨pi, ci, rfl, ⟨hi1, hi2⟩, hic⟩, hr⟩ := h
  obtain ⟨ib, io, rfl, hib, ⟨x0, x1, x2, x3, x4, x5, x6⟩, hxf⟩ := hic k x hx
  have hk := (List.getElem?_eq_some_iff.1 hx).1
  have HWC := hid' hwc
  have HB := hid' (two_boxes w (.cells #[.int .i64 c.regs, .slice pw c.waits.length cw, .slice (some ⟨ib, io, none⟩) c.ins.length ci] 25) (.cells #[.int .i64 x.op, .int .i64 x.a, .int .i64 x.b, .int .i64 x.c, .int .i64 x.n, .string x.s, .int .i64 x.to] 53))
  have j1 : (0 : Int) ≤ (k : Int) := by omega
  have j2 : (k : Int) < (c.ins.length : Int) := by omega
  have hw3 : (c.waits.length : Int) ≤ 9223372036854775807 := by unfold maxLen at hw2; omega
  have al := fun (a : Addr) (vv : Value) (hh : w.cell? a = some vv) (o : Obj) => (Below.cell ((Below.refl w.heap.size w).alloc (Nat.le_refl _) o) (World.block_lt_of_cell? _ _ hh)).trans hh
  have y0 := fun o => al _ _ x0 o
  have y1 := fun o => al _ _ x1 o
  have y2 := fun o => al _ _ x2 o
  have y3 := fun o => al _ _ x3 o
  have y4 := fun o => al _ _ x4 o
  have y5 := fun o => al _ _ x5 o
  have y6 := fun o => al _ _ x6 o
  have HNF := hid' hxf.n
  clear hwc hic hx hr hk al hxf
  go_enter Tryz.func49, Tryz.ntmps49
  go_upto_region 2 with (fail)
  obtain ⟨h1, h2, h3⟩ := HB.out
  have e1 : (w.alloc (.cells #[.int .i64 c.regs, .slice pw c.waits.length cw, .slice (some ⟨ib, io, none⟩) c.ins.length ci] 25)).heap.size = w.heap.size + 1 := by simp
  rw [e1] at h2
  have HB2 := hid' h3
  clear x0 x1 x2 x3 x4 x5 x6 y0 y1 y2 y3 y4 y5 y6 e1 h3 HB
  obtain ⟨b1, hb1⟩ : ∃ b1, b1 = w.heap.size + 1 := ⟨_, rfl⟩
  rw [← hb1] at h2 ⊢
  obtain ⟨b0, hb0⟩ : ∃ b0, b0 = w.heap.size := ⟨_, rfl⟩
  have h1' := h1
  rw [← hb0] at h1' ⊢
  clear hb1 hb0 h1
  generalize ((w.alloc (.cells #[.int .i64 c.regs, .slice pw c.waits.length cw, .slice (some ⟨ib, io, none⟩) c.ins.length ci] 25)).alloc (.cells #[.int .i64 x.op, .int .i64 x.a, .int .i64 x.b, .int .i64 x.c, .int .i64 x.n, .string x.s, .int .i64 x.to] 53)) = w2 at *
  have c1 := bcells h1' 1 _ rfl
  have x0 := bcells h2 0 _ rfl
  have x4 := bcells h2 4 _ rfl
  clear h1' h2
  rcases (by omega : x.op = 1 ∨ x.op = 2 ∨ x.op = 3 ∨ x.op = 21 ∨ x.op = 22 ∨ x.op = 28 ∨ x.op = 29 ∨ (x.op ≠ 1 ∧ x.op ≠ 2 ∧ x.op ≠ 3 ∧ x.op ≠ 21 ∧ x.op ≠ 22 ∧ x.op ≠ 28 ∧ x.op ≠ 29)) with hop | hop | hop | hop | hop | hop | hop | hop
  · have q1 : (x.op == 1) = true := by rw [hop]; rfl
    have q2 : (x.op == 2) = false := by rw [hop]; rfl
    have q3 : (x.op == 3) = false := by rw [hop]; rfl
    have q21 : (x.op == 21) = false := by rw [hop]; rfl
    have q22 : (x.op == 22) = false := by rw [hop]; rfl
    have q28 : (x.op == 28) = false := by rw [hop]; rfl
    have q29 : (x.op == 29) = false := by rw [hop]; rfl
    have HM := hid' (show numOk c (k : Int) x = within x.n (-1000000000000000) 1000000000000000 from by unfold numOk; simp [hop])
    by_cases h1 : (-1000000000000000) ≤ x.n
    · have g1 : decide ((-1000000000000000) ≤ x.n) = true := decide_eq_true h1
      have HV := hid' (show within x.n (-1000000000000000) 1000000000000000 = decide (x.n ≤ 1000000000000000) by unfold within; rw [g1, Bool.true_and])
      clear h1 hop
      go_wp2_with fail
      go_ret
      refine ⟨?_, HB2.out⟩
      rw [HM.out, HV.out]
      rfl
    · have g1 : decide ((-1000000000000000) ≤ x.n) = false := decide_eq_false h1
      have HV := hid' (show within x.n (-1000000000000000) 1000000000000000 = false by unfold within; rw [g1, Bool.false_and])
      clear h1 hop
      go_wp2_with fail
      go_ret
      refine ⟨?_, HB2.out⟩
      rw [HM.out, HV.out]
      rfl
  · have q1 : (x.op == 1) = false := by rw [hop]; rfl
    have q2 : (x.op == 2) = true := by rw [hop]; rfl
    have q3 : (x.op == 3) = false := by rw [hop]; rfl
    have q21 : (x.op == 21) = false := by rw [hop]; rfl
    have q22 : (x.op == 22) = false := by rw [hop]; rfl
    have q28 : (x.op == 28) = false := by rw [hop]; rfl
    have q29 : (x.op == 29) = false := by rw [hop]; rfl
    have HM := hid' (show numOk c (k : Int) x = within x.n (0) 3660 from by unfold numOk; simp [hop])
    by_cases h1 : (0) ≤ x.n
    · have g1 : decide ((0) ≤ x.n) = true := decide_eq_true h1
      have HV := hid' (show within x.n (0) 3660 = decide (x.n ≤ 3660) by unfold within; rw [g1, Bool.true_and])
      clear h1 hop
      go_wp2_with fail
      go_ret
      refine ⟨?_, HB2.out⟩
      rw [HM.out, HV.out]
      rfl
    · have g1 : decide ((0) ≤ x.n) = false := decide_eq_false h1
      have HV := hid' (show within x.n (0) 3660 = false by unfold within; rw [g1, Bool.false_and])
      clear h1 hop
      go_wp2_with fail
      go_ret
      refine ⟨?_, HB2.out⟩
      rw [HM.out, HV.out]
      rfl
  · have q1 : (x.op == 1) = false := by rw [hop]; rfl
    have q2 : (x.op == 2) = false := by rw [hop]; rfl
    have q3 : (x.op == 3) = true := by rw [hop]; rfl
    have q21 : (x.op == 21) = false := by rw [hop]; rfl
    have q22 : (x.op == 22) = false := by rw [hop]; rfl
    have q28 : (x.op == 28) = false := by rw [hop]; rfl
    have q29 : (x.op == 29) = false := by rw [hop]; rfl
    have HM := hid' (show numOk c (k : Int) x = within x.n (0) 3660 from by unfold numOk; simp [hop])
    by_cases h1 : (0) ≤ x.n
    · have g1 : decide ((0) ≤ x.n) = true := decide_eq_true h1
      have HV := hid' (show within x.n (0) 3660 = decide (x.n ≤ 3660) by unfold within; rw [g1, Bool.true_and])
      clear h1 hop
      go_wp2_with fail
      go_ret
      refine ⟨?_, HB2.out⟩
      rw [HM.out, HV.out]
      rfl
    · have g1 : decide ((0) ≤ x.n) = false := decide_eq_false h1
      have HV := hid' (show within x.n (0) 3660 = false by unfold within; rw [g1, Bool.false_and])
      clear h1 hop
      go_wp2_with fail
      go_ret
      refine ⟨?_, HB2.out⟩
      rw [HM.out, HV.out]
      rfl
  · have q1 : (x.op == 1) = false := by rw [hop]; rfl
    have q2 : (x.op == 2) = false := by rw [hop]; rfl
    have q3 : (x.op == 3) = false := by rw [hop]; rfl
    have q21 : (x.op == 21) = true := by rw [hop]; rfl
    have q22 : (x.op == 22) = false := by rw [hop]; rfl
    have q28 : (x.op == 28) = false := by rw [hop]; rfl
    have q29 : (x.op == 29) = false := by rw [hop]; rfl
    have HM := hid' (show numOk c (k : Int) x = within x.n (0) 73048 from by unfold numOk; simp [hop])
    by_cases h1 : (0) ≤ x.n
    · have g1 : decide ((0) ≤ x.n) = true := decide_eq_true h1
      have HV := hid' (show within x.n (0) 73048 = decide (x.n ≤ 73048) by unfold within; rw [g1, Bool.true_and])
      clear h1 hop
      go_wp2_with fail
      go_ret
      refine ⟨?_, HB2.out⟩
      rw [HM.out, HV.out]
      rfl
    · have g1 : decide ((0) ≤ x.n) = false := decide_eq_false h1
      have HV := hid' (show within x.n (0) 73048 = false by unfold within; rw [g1, Bool.false_and])
      clear h1 hop
      go_wp2_with fail
      go_ret
      refine ⟨?_, HB2.out⟩
      rw [HM.out, HV.out]
      rfl
  · have q1 : (x.op == 1) = false := by rw [hop]; rfl
    have q2 : (x.op == 2) = false := by rw [hop]; rfl
    have q3 : (x.op == 3) = false := by rw [hop]; rfl
    have q21 : (x.op == 21) = false := by rw [hop]; rfl
    have q22 : (x.op == 22) = true := by rw [hop]; rfl
    have q28 : (x.op == 28) = false := by rw [hop]; rfl
    have q29 : (x.op == 29) = false := by rw [hop]; rfl
    have HM := hid' (show numOk c (k : Int) x = within x.n (0) 73048 from by unfold numOk; simp [hop])
    by_cases h1 : (0) ≤ x.n
    · have g1 : decide ((0) ≤ x.n) = true := decide_eq_true h1
      have HV := hid' (show within x.n (0) 73048 = decide (x.n ≤ 73048) by unfold within; rw [g1, Bool.true_and])
      clear h1 hop
      go_wp2_with fail
      go_ret
      refine ⟨?_, HB2.out⟩
      rw [HM.out, HV.out]
      rfl
    · have g1 : decide ((0) ≤ x.n) = false := decide_eq_false h1
      have HV := hid' (show within x.n (0) 73048 = false by unfold within; rw [g1, Bool.false_and])
      clear h1 hop
      go_wp2_with fail
      go_ret
      refine ⟨?_, HB2.out⟩
      rw [HM.out, HV.out]
      rfl
  · have q1 : (x.op == 1) = false := by rw [hop]; rfl
    have q2 : (x.op == 2) = false := by rw [hop]; rfl
    have q3 : (x.op == 3) = false := by rw [hop]; rfl
    have q21 : (x.op == 21) = false := by rw [hop]; rfl
    have q22 : (x.op == 22) = false := by rw [hop]; rfl
    have q28 : (x.op == 28) = true := by rw [hop]; rfl
    have q29 : (x.op == 29) = false := by rw [hop]; rfl
    have HM := hid' (show numOk c (k : Int) x = within x.n 0 (c.waits.length - 1) from by unfold numOk; simp [hop])
    by_cases h1 : 0 ≤ x.n
    · have g1 : decide (0 ≤ x.n) = true := decide_eq_true h1
      have HV := hid' (show within x.n 0 (c.waits.length - 1) = decide (x.n < (c.waits.length : Int)) by unfold within; rw [g1, Bool.true_and]; exact decide_eq_decide.2 (by omega))
      clear h1 hop
      go_wp2_with fail
      go_ret
      refine ⟨?_, HB2.out⟩
      rw [HM.out, HV.out]
      rfl
    · have g1 : decide (0 ≤ x.n) = false := decide_eq_false h1
      have HV := hid' (show within x.n 0 (c.waits.length - 1) = false by unfold within; rw [g1, Bool.false_and])
      clear h1 hop
      go_wp2_with fail
      go_ret
      refine ⟨?_, HB2.out⟩
      rw [HM.out, HV.out]
      rfl
  · have q1 : (x.op == 1) = false := by rw [hop]; rfl
    have q2 : (x.op == 2) = false := by rw [hop]; rfl
    have q3 : (x.op == 3) = false := by rw [hop]; rfl
    have q21 : (x.op == 21) = false := by rw [hop]; rfl
    have q22 : (x.op == 22) = false := by rw [hop]; rfl
    have q28 : (x.op == 28) = false := by rw [hop]; rfl
    have q29 : (x.op == 29) = true := by rw [hop]; rfl
    have HM := hid' (show numOk c (k : Int) x = (within x.n 0 (c.waits.length - 1) && decide ((k : Int) < entryAt c x.n)) from by unfold numOk; simp [hop])
    by_cases h1 : 0 ≤ x.n
    · have g1 : decide (0 ≤ x.n) = true := decide_eq_true h1
      by_cases h2 : x.n < (c.waits.length : Int)
      · have g2 : decide (x.n < (c.waits.length : Int)) = true := decide_eq_true h2
        obtain ⟨wt, hwt⟩ : ∃ wt, c.waits[x.n.toNat]? = some wt := ⟨_, List.getElem?_eq_getElem (by omega)⟩
        obtain ⟨wb, wo, rfl, hwb, ⟨z0, _⟩, _⟩ := HWC.out _ _ hwt
        have z := (HB2.out.cell (p := ⟨wb, wo + x.n.toNat * 5, none⟩) hwb).trans z0
        have HV := hid' (show (within x.n 0 (c.waits.length - 1) && decide ((k : Int) < entryAt c x.n)) = decide ((k : Int) < wt.entry) by
          have e1 : within x.n 0 (c.waits.length - 1) = true := by unfold within; rw [g1, Bool.true_and]; exact decide_eq_true (by omega)
          rw [e1, Bool.true_and]
          unfold entryAt
          rw [hwt])
        clear hop z0 hwt
        go_wp2_with fail
        go_ret
        refine ⟨?_, HB2.out⟩
        rw [HM.out, HV.out]
        rfl
      · have g2 : decide (x.n < (c.waits.length : Int)) = false := decide_eq_false h2
        have HV := hid' (show (within x.n 0 (c.waits.length - 1) && decide ((k : Int) < entryAt c x.n)) = false by
          have e1 : within x.n 0 (c.waits.length - 1) = false := by unfold within; rw [g1, Bool.true_and]; exact decide_eq_false (by omega)
          rw [e1, Bool.false_and])
        clear h1 h2 hop
        go_wp2_with fail
        go_ret
        refine ⟨?_, HB2.out⟩
        rw [HM.out, HV.out]
        rfl
    · have g1 : decide (0 ≤ x.n) = false := decide_eq_false h1
      have HV := hid' (show (within x.n 0 (c.waits.length - 1) && decide ((k : Int) < entryAt c x.n)) = false by
        have e1 : within x.n 0 (c.waits.length - 1) = false := by unfold within; rw [g1, Bool.false_and]
        rw [e1, Bool.false_and])
      clear h1 hop
      go_wp2_with fail
      go_ret
      refine ⟨?_, HB2.out⟩
      rw [HM.out, HV.out]
      rfl
  · have q1 : (x.op == 1) = false := by rw [beq_eq_false_iff_ne]; omega
    have q2 : (x.op == 2) = false := by rw [beq_eq_false_iff_ne]; omega
    have q3 : (x.op == 3) = false := by rw [beq_eq_false_iff_ne]; omega
    have q21 : (x.op == 21) = false := by rw [beq_eq_false_iff_ne]; omega
    have q22 : (x.op == 22) = false := by rw [beq_eq_false_iff_ne]; omega
    have q28 : (x.op == 28) = false := by rw [beq_eq_false_iff_ne]; omega
    have q29 : (x.op == 29) = false := by rw [beq_eq_false_iff_ne]; omega
    have HM := hid' (show numOk c (k : Int) x = (x.n == 0) from by unfold numOk; simp [hop]; rfl)
    clear hop
    go_wp2_with fail
    go_ret
    refine ⟨?_, HB2.out⟩
    rw [HM.out]
    rfl
end Go.Proofs.YtiejoapnljkjdaaGreatDoor
