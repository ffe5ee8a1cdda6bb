/- Proved: the reference's Right, as a contract. -/
import Derived.Test.YtiejoapnljkjdaaGreatDoorGenRight
namespace Go.Proofs.YtiejoapnljkjdaaGreatDoor
open Go.RowKit
open Gen
set_option linter.unusedVariables false
set_option linter.unusedSimpArgs false
set_option maxRecDepth 100000
theorem CdAt.insCells {W : World} {r : Int} {vw : Value} {pi : Option Addr} {n ci : Nat} {c : Gen.Cd} (h : CdAt W (.agg #[.int .i64 r, vw, .slice pi n ci]) c) {i : Nat} {x : Gen.Ix} (hx : c.ins[i]? = some x) : ∃ b off, pi = some ⟨b, off, none⟩ ∧ W.cell? ⟨b, off + i * 7, none⟩ = some (.int .i64 x.op) := by
  obtain ⟨vw', vi', e, _, ⟨p, cc, e2, _, hic⟩, _⟩ := h
  simp only [Value.agg.injEq, Array.mk.injEq, List.cons.injEq, and_true] at e
  obtain ⟨_, _, e3⟩ := e
  rw [e2] at e3
  obtain ⟨rfl, _, _⟩ := Value.slice.inj e3
  obtain ⟨b, off, e4, _, ⟨h0, _⟩, _⟩ := hic i x hx
  exact ⟨b, off, e4, h0⟩
theorem CdAt.waitCells {W : World} {r : Int} {vi : Value} {pw : Option Addr} {n cw : Nat} {c : Gen.Cd} (h : CdAt W (.agg #[.int .i64 r, .slice pw n cw, vi]) c) {i : Nat} {x : Gen.Wt} (hx : c.waits[i]? = some x) : ∃ b off, pw = some ⟨b, off, none⟩ ∧ (W.cell? ⟨b, off + i * 5, none⟩ = some (.int .i64 x.entry) ∧ W.cell? ⟨b, off + i * 5 + 1, none⟩ = some (.int .i64 x.day) ∧ W.cell? ⟨b, off + i * 5 + 2, none⟩ = some (.string x.label) ∧ W.cell? ⟨b, off + i * 5 + 3, none⟩ = some (.int .i64 x.first) ∧ W.cell? ⟨b, off + i * 5 + 4, none⟩ = some (.int .i64 x.second)) ∧ WtFits x := by
  obtain ⟨vw', vi', e, ⟨p, cc, e2, _, hic⟩, _, _⟩ := h
  simp only [Value.agg.injEq, Array.mk.injEq, List.cons.injEq, and_true] at e
  obtain ⟨_, e3, _⟩ := e
  rw [e2] at e3
  obtain ⟨rfl, _, _⟩ := Value.slice.inj e3
  obtain ⟨b, off, e4, _, hcells, hf⟩ := hic i x hx
  exact ⟨b, off, e4, hcells, hf⟩
set_option maxHeartbeats 8000000 in
theorem refRight_any (v : Value) (c : Gen.Cd) (w : World) (h : CdAt w v c) : Calls Tryz.prog 7 #[v] w (Gives (.bool (Gen.right c)) w) := by
  have hcd := h
  obtain ⟨vw, vi, rfl, ⟨pw, cw, rfl, ⟨hw1, hw2⟩, _⟩, ⟨pi, ci, rfl, ⟨hi1, hi2⟩, _⟩, hr⟩ := h
  have B0 := (Below.refl w.heap.size w).alloc (Nat.le_refl _) (.cells #[.int .i64 c.regs, .slice pw c.waits.length cw, .slice pi c.ins.length ci] 25)
  have HS := hid' (show RSt w w.heap.size _ _ c _ from ⟨B0, heap_alloc_new w _, hcd.below B0⟩)
  have hi3 : (c.ins.length : Int) ≤ 9223372036854775807 := by unfold maxLen at hi2; omega
  have hw3 : (c.waits.length : Int) ≤ 9223372036854775807 := by unfold maxLen at hw2; omega
  have HIN := hid' hi3
  have HWN := hid' hw3
  clear hcd B0 hi2 hw2 hi3 hw3
  go_enter Tryz.func7, Tryz.ntmps7
  go_upto_region 1 with (fail)
  obtain ⟨b0, hb0⟩ : ∃ b0, b0 = w.heap.size := ⟨_, rfl⟩
  rw [← hb0] at HS ⊢
  clear hb0
  generalize w.alloc (.cells #[.int .i64 c.regs, .slice pw c.waits.length cw, .slice pi c.ins.length ci] 25) = w2 at *
  have c0 := bcells HS.out.cb 0 _ rfl
  have c1 := bcells HS.out.cb 1 _ rfl
  have c2 := bcells HS.out.cb 2 _ rfl
  have HBAD := hid' (fun hh => right_head (c := c) hh)
  by_cases h1 : c.regs < 0
  · have g1 : decide (c.regs < 0) = true := decide_eq_true h1
    have HW := hid' (HBAD.out (.inl h1))
    clear h1
    go_wp2_with fail
    go_ret
    refine ⟨?_, HS.out.bel⟩
    rw [HW.out]
    rfl
  have g1 : decide (c.regs < 0) = false := decide_eq_false h1
  by_cases h2 : 256 < c.regs
  · have g2 : decide (256 < c.regs) = true := decide_eq_true h2
    have HW := hid' (HBAD.out (.inr (.inl h2)))
    clear h1 h2
    go_wp2_with fail
    go_ret
    refine ⟨?_, HS.out.bel⟩
    rw [HW.out]
    rfl
  have g2 : decide (256 < c.regs) = false := decide_eq_false h2
  by_cases h3 : 250 < c.waits.length
  · have g3 : decide (250 < c.waits.length) = true := decide_eq_true h3
    have g3i : decide ((250 : Int) < (c.waits.length : Int)) = true := decide_eq_true (by omega)
    have HW := hid' (HBAD.out (.inr (.inr (.inl h3))))
    clear h1 h2 h3
    go_wp2_with fail
    go_ret
    refine ⟨?_, HS.out.bel⟩
    rw [HW.out]
    rfl
  have g3 : decide (250 < c.waits.length) = false := decide_eq_false h3
  by_cases h4 : c.ins.length < 1
  · have HW := hid' (HBAD.out (.inr (.inr (.inr (.inl h4)))))
    have hz : c.ins = [] := List.length_eq_zero_iff.1 (by omega)
    have g4 : decide ((c.ins.length : Int) < 1) = true := decide_eq_true (by omega)
    have g4n : decide (c.ins.length < 1) = true := decide_eq_true h4
    have g4z : decide (c.ins = []) = true := decide_eq_true hz
    have g4y : decide (c.ins.length = 0) = true := decide_eq_true (by omega)
    have g3i : decide ((250 : Int) < (c.waits.length : Int)) = false := decide_eq_false (by omega)
    rw [hz] at c2
    clear h1 h2 h3 h4
    go_wp2_with fail
    go_ret
    refine ⟨?_, HS.out.bel⟩
    rw [HW.out]
    rfl
  have g3i : decide ((250 : Int) < (c.waits.length : Int)) = false := decide_eq_false (by omega)
  have hnz : ¬ c.ins = [] := fun e => by rw [e] at h4; simp at h4
  have g4 : decide ((c.ins.length : Int) < 1) = false := decide_eq_false (by omega)
  have g4n : decide (c.ins.length < 1) = false := decide_eq_false h4
  have g4z : decide (c.ins = []) = false := decide_eq_false hnz
  have g4y : decide (c.ins.length = 0) = false := decide_eq_false (by omega)
  by_cases h5 : 16384 < c.ins.length
  · have g5 : decide (16384 < c.ins.length) = true := decide_eq_true h5
    have g5i : decide ((16384 : Int) < (c.ins.length : Int)) = true := decide_eq_true (by omega)
    have HW := hid' (HBAD.out (.inr (.inr (.inr (.inr (.inl h5))))))
    clear h1 h2 h3 h4 h5 hnz
    go_wp2_with fail
    go_ret
    refine ⟨?_, HS.out.bel⟩
    rw [HW.out]
    rfl
  have g5 : decide (16384 < c.ins.length) = false := decide_eq_false h5
  have g5i : decide ((16384 : Int) < (c.ins.length : Int)) = false := decide_eq_false (by omega)
  obtain ⟨y, hy⟩ : ∃ y, c.ins[c.ins.length - 1]? = some y := ⟨_, List.getElem?_eq_getElem (by omega)⟩
  have hlast := lastOp_at hy
  obtain ⟨ib, io, rfl, z0⟩ := HS.out.cd.insCells hy
  have v1 : IntKind.i64.wrap ((c.ins.length : Int) - 1) = (c.ins.length : Int) - 1 := IntWalk.i64_in _ (by omega)
  have v2 : (0 : Int) ≤ (c.ins.length : Int) - 1 := by omega
  have v3 : (1 : Int) ≤ (c.ins.length : Int) := by omega
  have v4 : (c.ins.length : Int) - 1 < (c.ins.length : Int) := by omega
  have v5 : ((c.ins.length : Int) - 1).toNat = c.ins.length - 1 := by omega
  by_cases h6 : y.op = 30
  case neg =>
    have q1 : (y.op == 30) = false := by rw [beq_eq_false_iff_ne]; exact h6
    have q2 : (y.op != 30) = true := by rw [bne_iff_ne]; exact h6
    have HW := hid' (HBAD.out (.inr (.inr (.inr (.inr (.inr (by rw [hlast]; exact h6)))))))
    clear h1 h2 h3 h4 h5 h6 hnz hy hlast
    go_wp2_with fail
    go_ret
    refine ⟨?_, HS.out.bel⟩
    rw [HW.out]
    rfl
  have q1 : (y.op == 30) = true := by rw [h6]; rfl
  have q2 : (y.op != 30) = false := by rw [h6]; rfl
  have HHEAD := hid' (show (0 ≤ c.regs ∧ c.regs ≤ 256) ∧ c.waits.length ≤ 250 ∧ 1 ≤ c.ins.length ∧ c.ins.length ≤ 16384 ∧ lastOp c.ins = 30 from ⟨⟨by omega, by omega⟩, by omega, by omega, by omega, by rw [hlast]; exact h6⟩)
  have HW0 := hid' (show ∀ j, j < 0 → ∀ x, c.waits[j]? = some x → waitOk c x = true from fun j hj => by omega)
  clear h1 h2 h3 h4 h5 h6 hnz hy hlast
  go_wp2_with fail
  go_loopw [4] (fun iv wr => ∃ i : Nat, iv = .int .i64 (i : Int) ∧ i ≤ c.waits.length ∧ Hid (∀ j, j < i → ∀ x, c.waits[j]? = some x → waitOk c x = true) ∧ Hid (RSt w b0 (.slice pw c.waits.length cw) (.slice (some ⟨ib, io, none⟩) c.ins.length ci) c wr)) (fun iv _ => c.waits.length - (intOf iv).toNat)
  case atStart => exact ⟨0, rfl, Nat.zero_le _, HW0, HS⟩
  case round =>
    obtain ⟨i, rfl, hi, HA, HR⟩ := hrel
    clear c0 c1 c2 z0
    have c0 := bcells HR.out.cb 0 _ rfl
    have c1 := bcells HR.out.cb 1 _ rfl
    have c2 := bcells HR.out.cb 2 _ rfl
    by_cases hin : i < c.waits.length
    · obtain ⟨x, hx⟩ : ∃ x, c.waits[i]? = some x := ⟨_, List.getElem?_eq_getElem hin⟩
      obtain ⟨wb, wo, rfl, ⟨y0, y1, y2, y3, y4⟩, hwf⟩ := HR.out.cd.waitCells hx
      have hwn := HWN.out
      have j1 : (0 : Int) ≤ (i : Int) := by omega
      have j2 : (i : Int) < (c.waits.length : Int) := by omega
      have wi : IntKind.i64.wrap ((i : Int) + 1) = (i : Int) + 1 := IntWalk.i64_in _ (by omega)
      have HX := hid' (And.intro hx hwf)
      have HI := hid' hin
      clear hx hwf hin
      go_upto_region 7 with (fail)
      go_still_tail 6, (by kernel_rfl)
      change wpList _ _ _ _ _ wr.drew
      go_wp2_with fail
      refine (wait_any _ c x _ (HR.out.below ((Below.refl _ _).drew)).cd HX.out.2.label).mono ?_
      rintro e w5 ⟨rfl, b5⟩
      have HR2 := hid' ((HR.out.below ((Below.refl _ _).drew)).below b5)
      clear b5 c0 c1 c2 y0 y1 y2 y3 y4
      cases hok : waitOk c x with
      | false =>
        have HW := hid' (right_wait HX.out.1 hok)
        clear hok
        go_wp2_with fail
        go_ret
        refine ⟨?_, HR2.out.bel⟩
        rw [HW.out]
        rfl
      | true =>
        have HA2 := hid' (show ∀ j, j < i + 1 → ∀ z, c.waits[j]? = some z → waitOk c z = true from fun j hj z hz => by
          rcases Nat.lt_or_ge j i with h1 | h1
          · exact HA.out j h1 z hz
          · obtain rfl : j = i := by omega
            have := HX.out.1
            rw [hz] at this
            cases this
            exact hok)
        clear hok
        go_wp2_with fail
        go_roundw
        case rel => exact ⟨i + 1, by go_num, by have := HI.out; omega, HA2, HR2⟩
        case measure => have := HI.out; simp [intOf]; omega
    · obtain rfl : i = c.waits.length := by omega
      have g9 : decide (c.waits.length < c.waits.length) = false := by simp
      have HI0 := hid' (show ∀ (j : Nat), j < 0 → ∀ x, c.ins[j]? = some x → insOk c (j : Int) x = true from fun j hj => by omega)
      clear hin
      go_wp2_with fail
      go_loopw [6] (fun iv wz => ∃ i : Nat, iv = .int .i64 (i : Int) ∧ i ≤ c.ins.length ∧ Hid (∀ (j : Nat), j < i → ∀ x, c.ins[j]? = some x → insOk c (j : Int) x = true) ∧ Hid (RSt w b0 (.slice pw c.waits.length cw) (.slice (some ⟨ib, io, none⟩) c.ins.length ci) c wz)) (fun iv _ => c.ins.length - (intOf iv).toNat)
      case atStart => exact ⟨0, rfl, Nat.zero_le _, HI0, HR⟩
      case round =>
        obtain ⟨i, rfl, hi, HJ, HV⟩ := hrel
        clear c0 c1 c2
        have c0 := bcells HV.out.cb 0 _ rfl
        have c1 := bcells HV.out.cb 1 _ rfl
        have c2 := bcells HV.out.cb 2 _ rfl
        by_cases hin : i < c.ins.length
        · obtain ⟨x, hx⟩ : ∃ x, c.ins[i]? = some x := ⟨_, List.getElem?_eq_getElem hin⟩
          have hwn := HIN.out
          have j1 : (0 : Int) ≤ (i : Int) := by omega
          have j2 : (i : Int) < (c.ins.length : Int) := by omega
          have wi : IntKind.i64.wrap ((i : Int) + 1) = (i : Int) + 1 := IntWalk.i64_in _ (by omega)
          have g8 : decide (i < c.ins.length) = true := decide_eq_true hin
          have HX := hid' hx
          have HI := hid' hin
          clear hx hin
          go_wp2_with fail
          refine (instr_any _ c i x _ HV.out.cd HX.out).mono ?_
          rintro e w6 ⟨rfl, b6⟩
          have HR2 := hid' (HV.out.below b6)
          clear b6 c0 c1 c2
          cases hok : insOk c (i : Int) x with
          | false =>
            have HW := hid' (right_ins HX.out hok)
            clear hok
            go_wp2_with fail
            go_ret
            refine ⟨?_, HR2.out.bel⟩
            rw [HW.out]
            rfl
          | true =>
            have HA2 := hid' (show ∀ (j : Nat), j < i + 1 → ∀ z, c.ins[j]? = some z → insOk c (j : Int) z = true from fun j hj z hz => by
              rcases Nat.lt_or_ge j i with h1 | h1
              · exact HJ.out j h1 z hz
              · obtain rfl : j = i := by omega
                have := HX.out
                rw [hz] at this
                cases this
                exact hok)
            clear hok
            go_wp2_with fail
            go_roundw
            case rel => exact ⟨i + 1, by go_num, by have := HI.out; omega, HA2, HR2⟩
            case measure => have := HI.out; simp [intOf]; omega
        · obtain rfl : i = c.ins.length := by omega
          have g8 : decide (c.ins.length < c.ins.length) = false := by simp
          obtain ⟨k1, k2, k3, k4, k5⟩ := HHEAD.out
          have HW := hid' (right_all k1 k2 k3 k4 k5 (fun j x hx => HA.out j (List.getElem?_eq_some_iff.1 hx).1 x hx) (fun j x hx => HJ.out j (List.getElem?_eq_some_iff.1 hx).1 x hx))
          clear hin k1 k2 k3 k4 k5
          go_wp2_with fail
          go_ret
          refine ⟨?_, HV.out.bel⟩
          rw [HW.out]
          rfl
end Go.Proofs.YtiejoapnljkjdaaGreatDoor
