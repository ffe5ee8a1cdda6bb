/- Proved: the reference's text, place, as contracts. -/
import Derived.Test.YtiejoapnljkjdaaGreatDoorGenNum
import Derived.Test.YtiejoapnljkjdaaGreatDoorRefNames
import Derived.IntWalk
namespace Go.Proofs.YtiejoapnljkjdaaGreatDoor
open Go.RowKit
open Gen
set_option linter.unusedVariables false
set_option linter.unusedSimpArgs false
set_option maxRecDepth 100000
set_option maxHeartbeats 2000000 in
theorem text_any (x : Gen.Ix) (w : World) (hs : x.s.size ≤ 2000000) : Calls Tryz.prog 50 #[.agg #[.int .i64 x.op, .int .i64 x.a, .int .i64 x.b, .int .i64 x.c, .int .i64 x.n, .string x.s, .int .i64 x.to]] w (Gives (.bool (Gen.textOk x)) w) := by
  have HB := hid' (show Below w.heap.size w (w.alloc (.cells #[.int .i64 x.op, .int .i64 x.a, .int .i64 x.b, .int .i64 x.c, .int .i64 x.n, .string x.s, .int .i64 x.to] 53)) from (Below.refl _ _).alloc (Nat.le_refl _) _)
  have HX := hid' (show IxBox (w.alloc (.cells #[.int .i64 x.op, .int .i64 x.a, .int .i64 x.b, .int .i64 x.c, .int .i64 x.n, .string x.s, .int .i64 x.to] 53)) w.heap.size x from heap_alloc_new w _)
  have HIN := hid' (fun W => refIsName_any x.s W (by omega))
  have HIC := hid' (fun W => refIsCur_any x.s W (by omega))
  clear hs
  go_enter Tryz.func50, Tryz.ntmps50
  go_upto_region 1 with (fail)
  obtain ⟨b, hb⟩ : ∃ b, b = w.heap.size := ⟨_, rfl⟩
  rw [← hb] at HX ⊢
  clear hb
  generalize w.alloc (.cells #[.int .i64 x.op, .int .i64 x.a, .int .i64 x.b, .int .i64 x.c, .int .i64 x.n, .string x.s, .int .i64 x.to] 53) = w2 at *
  have x0 := bcells HX.out 0 _ rfl
  have x5 := bcells HX.out 5 _ rfl
  go_wp2_with fail
  refine (HIN.out w2).mono ?_
  rintro e w3 ⟨rfl, rfl⟩
  go_wp2_with fail
  refine (HIC.out w3).mono ?_
  rintro e w4 ⟨rfl, rfl⟩
  generalize hN : Led.isName x.s = bn at *
  generalize hC : Led.isCur x.s = bc at *
  have HN := hid' hN
  have HC := hid' hC
  clear hN hC
  rcases (by omega : x.op = 2 ∨ x.op = 27 ∨ (x.op ≠ 2 ∧ x.op ≠ 27)) with hop | hop | hop
  · have q2 : (x.op == 2) = true := by rw [hop]; rfl
    have HM := hid' (show textOk x = Led.isName x.s by unfold textOk; rw [if_pos hop])
    clear hop
    go_wp2_with fail
    go_ret
    refine ⟨?_, HB.out⟩
    rw [HM.out, HN.out]
    rfl
  · have q2 : (x.op == 2) = false := by rw [hop]; rfl
    have q27 : (x.op == 27) = true := by rw [hop]; rfl
    have HM := hid' (show textOk x = Led.isCur x.s by unfold textOk; rw [if_neg (by omega), if_pos hop])
    clear hop
    go_wp2_with fail
    go_ret
    refine ⟨?_, HB.out⟩
    rw [HM.out, HC.out]
    rfl
  · have q2 : (x.op == 2) = false := by rw [beq_eq_false_iff_ne]; omega
    have q27 : (x.op == 27) = false := by rw [beq_eq_false_iff_ne]; omega
    by_cases hs : x.s = ⟨#[]⟩
    · have HM := hid' (show textOk x = true by unfold textOk; rw [if_neg hop.1, if_neg hop.2]; exact decide_eq_true hs)
      rw [hs] at x5
      clear hop
      go_wp2_with fail
      go_ret
      refine ⟨?_, HB.out⟩
      rw [HM.out]
      rfl
    · have HM := hid' (show textOk x = false by unfold textOk; rw [if_neg hop.1, if_neg hop.2]; exact decide_eq_false hs)
      have hnl : x.s.toList.isEmpty = false := nonempty_list hs
      clear hop hs
      go_wp2_with fail
      go_ret
      refine ⟨?_, HB.out⟩
      rw [HM.out]
      rfl
set_option maxHeartbeats 2000000 in
theorem place_any (v : Value) (c : Gen.Cd) (n : Int) (w : World) (h : CdAt w v c) : Calls Tryz.prog 44 #[v, .int .i64 n] w (Gives (.bool (Gen.place c n)) w) := by
  obtain ⟨vw, vi, rfl, ⟨pw, cw, rfl, _⟩, ⟨pi, ci, rfl, _⟩, hr⟩ := h
  have HB := hid' (show Below w.heap.size w (w.alloc (.cells #[.int .i64 c.regs, .slice pw c.waits.length cw, .slice pi c.ins.length ci] 25)) from (Below.refl _ _).alloc (Nat.le_refl _) _)
  have HX := hid' (show CdBox (w.alloc (.cells #[.int .i64 c.regs, .slice pw c.waits.length cw, .slice pi c.ins.length ci] 25)) w.heap.size c.regs _ _ from heap_alloc_new w _)
  go_enter Tryz.func44, Tryz.ntmps44
  go_upto_region 1 with (fail)
  obtain ⟨b, hb⟩ : ∃ b, b = w.heap.size := ⟨_, rfl⟩
  rw [← hb] at HX ⊢
  clear hb
  generalize w.alloc (.cells #[.int .i64 c.regs, .slice pw c.waits.length cw, .slice pi c.ins.length ci] 25) = w2 at *
  have x2 := bcells HX.out 2 _ rfl
  by_cases h1 : 0 ≤ n
  · have g1 : decide (0 ≤ n) = true := decide_eq_true h1
    have HM := hid' (show Gen.place c n = decide (n < (c.ins.length : Int)) by unfold Gen.place; rw [g1, Bool.true_and])
    clear h1
    go_wp2_with fail
    go_ret
    refine ⟨?_, HB.out⟩
    rw [HM.out]
    rfl
  · have g1 : decide (0 ≤ n) = false := decide_eq_false h1
    have HM := hid' (show Gen.place c n = false by unfold Gen.place; rw [g1, Bool.false_and])
    clear h1
    go_wp2_with fail
    go_ret
    refine ⟨?_, HB.out⟩
    rw [HM.out]
    rfl
end Go.Proofs.YtiejoapnljkjdaaGreatDoor
