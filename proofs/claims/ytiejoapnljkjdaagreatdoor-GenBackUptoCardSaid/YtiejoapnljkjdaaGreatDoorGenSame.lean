/- Proved: the reference's SameCode says yes of two that are the same. -/
import Derived.Test.YtiejoapnljkjdaaGreatDoorGenEnc
namespace Go.Proofs.YtiejoapnljkjdaaGreatDoor
open Go.RowKit
set_option linter.unusedVariables false
set_option linter.unusedSimpArgs false
set_option maxRecDepth 100000
/-- Both in their boxes. -/
structure TwoCd (w : World) (b2 b3 : Nat) (va vi vb vj : Value) (c : Gen.Cd) (W : World) : Prop where
  bel : Below w.heap.size w W
  k2 : CdBox W b2 c.regs va vi
  k3 : CdBox W b3 c.regs vb vj
  a : CdAt W (.agg #[.int .i64 c.regs, va, vi]) c
  b : CdAt W (.agg #[.int .i64 c.regs, vb, vj]) c
theorem TwoCd.drew {w : World} {b2 b3 : Nat} {va vi vb vj : Value} {c : Gen.Cd} {W : World} (h : TwoCd w b2 b3 va vi vb vj c W) : TwoCd w b2 b3 va vi vb vj c W.drew := ⟨h.bel.drew, h.k2, h.k3, h.a.below ((Below.refl _ _).drew), h.b.below ((Below.refl _ _).drew)⟩
theorem TwoCd.drewn {w : World} {b2 b3 : Nat} {va vi vb vj : Value} {c : Gen.Cd} {W : World} (h : TwoCd w b2 b3 va vi vb vj c W) (n : Nat) : TwoCd w b2 b3 va vi vb vj c (W.drewN n) := by
  have b := Below.drewn (Below.refl W.heap.size W) n
  exact ⟨Below.more h.bel b, box_below b h.k2, box_below b h.k3, h.a.below b, h.b.below b⟩
set_option maxHeartbeats 4000000 in
theorem sameCode_yes (v1 v2 : Value) (c : Gen.Cd) (w : World) (h1 : CdAt w v1 c) (h2 : CdAt w v2 c) : Calls Tryz.prog 14 #[v1, v2] w (Gives (.bool true) w) := by
  have hc1 := h1
  have hc2 := h2
  obtain ⟨va, vi, rfl, ⟨pa, ca, rfl, ⟨ha1, ha2⟩, -⟩, ⟨pi, ci, rfl, ⟨hi1, hi2⟩, -⟩, hr⟩ := h1
  obtain ⟨vb, vj, rfl, ⟨pb, cb, rfl, -, -⟩, ⟨pj, cj, rfl, -, -⟩, -⟩ := h2
  have B0 : Below w.heap.size w ((w.alloc (.cells #[.int .i64 c.regs, .slice pa c.waits.length ca, .slice pi c.ins.length ci] 25)).alloc (.cells #[.int .i64 c.regs, .slice pb c.waits.length cb, .slice pj c.ins.length cj] 25)) := ((Below.refl _ w).alloc (Nat.le_refl _) _).alloc (by simp) _
  have HS := hid' (show TwoCd w w.heap.size (w.heap.size + 1) _ _ _ _ c _ from ⟨B0, (Below.heap_alloc _ _ _ (by simp)).trans (heap_alloc_new w _), heap_new_at _ _ (by simp), hc1.below B0, hc2.below B0⟩)
  have HIN := hid' (show (c.ins.length : Int) ≤ 9223372036854775807 by unfold maxLen at hi2; omega)
  have HWN := hid' (show (c.waits.length : Int) ≤ 9223372036854775807 by unfold maxLen at ha2; omega)
  clear B0 hc1 hc2 ha2 hi2
  go_enter Tryz.func14, Tryz.ntmps14
  go_upto_region 1 with (fail)
  obtain ⟨b3, hb3⟩ : ∃ b, b = w.heap.size + 1 := ⟨_, rfl⟩
  obtain ⟨b2, hb2⟩ : ∃ b, b = w.heap.size := ⟨_, rfl⟩
  rw [← hb3] at HS ⊢
  rw [← hb2] at HS ⊢
  clear hb3 hb2
  generalize ((w.alloc (.cells #[.int .i64 c.regs, .slice pa c.waits.length ca, .slice pi c.ins.length ci] 25)).alloc (.cells #[.int .i64 c.regs, .slice pb c.waits.length cb, .slice pj c.ins.length cj] 25)) = w2 at *
  have k0 := bcells HS.out.k2 0 _ rfl
  have k1 := bcells HS.out.k2 1 _ rfl
  have k2 := bcells HS.out.k2 2 _ rfl
  have m0 := bcells HS.out.k3 0 _ rfl
  have m1 := bcells HS.out.k3 1 _ rfl
  have m2 := bcells HS.out.k3 2 _ rfl
  go_wp2_with fail
  clear k0 k1 k2 m0 m1 m2
  go_loopw [5] (fun iv wr => ∃ i : Nat, iv = .int .i64 (i : Int) ∧ i ≤ c.waits.length ∧ Hid (TwoCd w b2 b3 (.slice pa c.waits.length ca) (.slice pi c.ins.length ci) (.slice pb c.waits.length cb) (.slice pj c.ins.length cj) c wr)) (fun iv _ => c.waits.length - (intOf iv).toNat)
  case atStart => exact ⟨0, rfl, Nat.zero_le _, HS⟩
  case round =>
    obtain ⟨i, rfl, hi, HR⟩ := hrel
    have k1 := bcells HR.out.k2 1 _ rfl
    have m1 := bcells HR.out.k3 1 _ rfl
    by_cases hin : i < c.waits.length
    · obtain ⟨x, hx⟩ : ∃ x, c.waits[i]? = some x := ⟨_, List.getElem?_eq_getElem hin⟩
      obtain ⟨ab, ao, rfl, ⟨y0, y1, y2, y3, y4⟩, -⟩ := HR.out.a.waitCells hx
      obtain ⟨bb, bo, rfl, ⟨z0, z1, z2, z3, z4⟩, -⟩ := HR.out.b.waitCells hx
      have hwn := HWN.out
      have j1 : (0 : Int) ≤ (i : Int) := by omega
      have j2 : (i : Int) < (c.waits.length : Int) := by omega
      have wi : IntKind.i64.wrap ((i : Int) + 1) = (i : Int) + 1 := IntWalk.i64_in _ (by omega)
      have g8 : decide (i < c.waits.length) = true := decide_eq_true hin
      have HI := hid' hin
      clear hin hx
      go_upto_region 6 with (fail)
      go_quiet (fail)
      obtain ⟨m0, hm0⟩ : ∃ m, m = nq := ⟨_, rfl⟩
      have HR2 := hid' (HR.out.drewn nq)
      clear y0 y1 y2 y3 y4 z0 z1 z2 z3 z4 k1 m1
      go_wp2_with fail
      go_roundw
      case rel => exact ⟨i + 1, by go_num, by have := HI.out; omega, HR2⟩
      case measure => have := HI.out; simp [intOf]; omega
    · obtain rfl : i = c.waits.length := by omega
      have g9 : decide (c.waits.length < c.waits.length) = false := by simp
      clear hin
      go_wp2_with fail
      clear k1 m1
      go_loopw [6] (fun iv wr => ∃ i : Nat, iv = .int .i64 (i : Int) ∧ i ≤ c.ins.length ∧ Hid (TwoCd w b2 b3 (.slice pa c.waits.length ca) (.slice pi c.ins.length ci) (.slice pb c.waits.length cb) (.slice pj c.ins.length cj) c wr)) (fun iv _ => c.ins.length - (intOf iv).toNat)
      case atStart => exact ⟨0, rfl, Nat.zero_le _, HR⟩
      case round =>
        obtain ⟨i, rfl, hi, HV⟩ := hrel
        have k1 := bcells HV.out.k2 2 _ rfl
        have m1 := bcells HV.out.k3 2 _ rfl
        by_cases hin : i < c.ins.length
        · obtain ⟨x, hx⟩ : ∃ x, c.ins[i]? = some x := ⟨_, List.getElem?_eq_getElem hin⟩
          obtain ⟨ab, ao, rfl, ⟨y0, y1, y2, y3, y4, y5, y6⟩, -⟩ := HV.out.a.insAll hx
          obtain ⟨bb, bo, rfl, ⟨z0, z1, z2, z3, z4, z5, z6⟩, -⟩ := HV.out.b.insAll hx
          have hwn := HIN.out
          have j1 : (0 : Int) ≤ (i : Int) := by omega
          have j2 : (i : Int) < (c.ins.length : Int) := by omega
          have wi : IntKind.i64.wrap ((i : Int) + 1) = (i : Int) + 1 := IntWalk.i64_in _ (by omega)
          have g8 : decide (i < c.ins.length) = true := decide_eq_true hin
          have HI := hid' hin
          clear hin hx
          go_upto_region 11 with (fail)
          go_quiet (fail)
          obtain ⟨m0, hm0⟩ : ∃ m, m = nq := ⟨_, rfl⟩
          have HR2 := hid' (HV.out.drewn nq)
          clear y0 y1 y2 y3 y4 y5 y6 z0 z1 z2 z3 z4 z5 z6 k1 m1
          go_wp2_with fail
          go_roundw
          case rel => exact ⟨i + 1, by go_num, by have := HI.out; omega, HR2⟩
          case measure => have := HI.out; simp [intOf]; omega
        · obtain rfl : i = c.ins.length := by omega
          have g8 : decide (c.ins.length < c.ins.length) = false := by simp
          clear hin
          go_wp2_with fail
          go_ret
          exact ⟨rfl, HV.out.bel⟩
end Go.Proofs.YtiejoapnljkjdaaGreatDoor
