/- Proved: NumTurns as a contract: it returns true and writes nothing that was there. No conditions. -/
import Derived.Test.YtljmokbdmfiajaaDoorNumMul
namespace Go.Proofs.YtljmokbdmfiajaaDoor
open Go.RowKit
set_option linter.unusedVariables false
open Num
namespace Num
theorem scl_le (x y d : Nat) : scl x y d ≤ 1000000000000000 := by
  unfold scl; split <;> omega
theorem sgn_le (b : Bool) (n : Nat) (h : n ≤ 1000000000000000) : clamp (sgn b n) = sgn b n := by
  cases b <;> exact clamp_in (by simp [sgn]; try omega) (by simp [sgn]; try omega)
theorem mul_clamp (a b : Int) : clamp (mul a b) = mul a b := sgn_le _ _ (scl_le _ _ _)
theorem mul_swap (a b : Int) : mul b a = mul a b := by
  unfold mul
  rw [show (decide (clamp b < 0) != decide (clamp a < 0)) = (decide (clamp a < 0) != decide (clamp b < 0)) by cases decide (clamp b < 0) <;> cases decide (clamp a < 0) <;> rfl]
  congr 1
  unfold scl
  rw [Nat.mul_comm]
theorem add_swap (a b : Int) : add b a = add a b := by unfold add; rw [Int.add_comm]
theorem scl_one (x : Nat) (h : x ≤ 1000000000000000) : scl x 1000000 1000000 = x := by
  unfold scl
  rw [Nat.mul_div_cancel _ (by omega), Nat.mul_mod_left, if_pos (by omega), up, if_neg (by omega)]
  omega
theorem sgn_abs (a : Int) : sgn (decide (clamp a < 0)) (clamp a).natAbs = clamp a := by
  by_cases h : clamp a < 0
  · rw [decide_eq_true h]; simp only [sgn, if_true]; omega
  · rw [decide_eq_false h]; simp only [sgn]; simp; omega
theorem bne_false' (b : Bool) : (b != false) = b := by cases b <;> rfl
theorem mul_one' (a : Int) : mul a 1000000 = clamp a := by
  have h := abs_fits a
  unfold mul
  rw [show clamp 1000000 = 1000000 by decide, show (1000000 : Int).natAbs = 1000000 from rfl, scl_one _ h, show decide ((1000000 : Int) < 0) = false by decide, bne_false', sgn_abs]
theorem div_one' (a : Int) : div a 1000000 = clamp a := by
  have h := abs_fits a
  unfold div
  rw [show clamp 1000000 = 1000000 by decide, if_neg (by decide), show (1000000 : Int).natAbs = 1000000 from rfl, scl_one _ h, show decide ((1000000 : Int) < 0) = false by decide, bne_false', sgn_abs]
theorem neg_neg' (a : Int) : neg (neg a) = clamp a := by unfold neg; rw [clamp_neg, clamp_clamp]; omega
theorem sub_self' (a : Int) : sub a a = 0 := by unfold sub; rw [Int.sub_self]; rfl
theorem add_zero' (a : Int) : add a 0 = clamp a := by unfold add; rw [show clamp 0 = 0 by decide, Int.add_zero, clamp_clamp]
theorem scl_zero (y d : Nat) (hd : 0 < d) : scl 0 y d = 0 := by
  unfold scl
  rw [Nat.zero_mul, Nat.zero_div, if_pos hd, Nat.zero_div, Nat.zero_mod, up, if_neg (by omega)]
  rfl
theorem scl_swap (x y d : Nat) : scl x y d = scl y x d := by unfold scl; rw [Nat.mul_comm]
theorem sgn_zero (b : Bool) : sgn b 0 = 0 := by cases b <;> rfl
theorem mul_zero' (a : Int) : mul a 0 = 0 := by
  unfold mul
  rw [show clamp 0 = 0 by decide, show (0 : Int).natAbs = 0 from rfl, scl_swap, scl_zero _ _ (by omega), sgn_zero]
theorem div_zero' (a : Int) : div a 0 = 0 := by unfold div; rw [show clamp 0 = 0 by decide, if_pos rfl]
theorem mul_neg' (a b : Int) : mul a (neg b) = neg (mul a b) := by
  unfold neg
  rw [mul_clamp]
  unfold mul
  rw [clamp_neg, clamp_clamp, Int.natAbs_neg]
  by_cases h0 : clamp b = 0
  · rw [h0, show (0 : Int).natAbs = 0 from rfl, scl_swap, scl_zero _ _ (by omega), sgn_zero, sgn_zero]; rfl
  · have e : decide (-clamp b < 0) = !decide (clamp b < 0) := by
      by_cases h : clamp b < 0
      · rw [decide_eq_true h, decide_eq_false (by omega)]; rfl
      · rw [decide_eq_false h, decide_eq_true (by omega)]; rfl
    rw [e]
    generalize scl _ _ _ = n
    cases decide (clamp a < 0) <;> cases decide (clamp b < 0) <;> simp [sgn]
end Num
def True2 (w : World) (e : Ending) (w' : World) : Prop := e = .returned (.bool true) ∧ Below w.heap.size w w'
theorem Below.drewn {B : Nat} {w w' : World} (h : Below B w w') (n : Nat) : Below B w (w'.drewN n) := by
  induction n with
  | zero => exact h
  | succ n ih => exact ih.drew

set_option maxHeartbeats 2000000 in
theorem law_turns (a b : Int) (w : World) : Calls Tryd.prog 6 #[.int .i64 a, .int .i64 b] w (True1 w) := by
  have F1 := hid' (add_swap a b)
  have F2 := hid' (mul_swap a b)
  have F3 := hid' (mul_one' a)
  have F4 := hid' (div_one' a)
  have F5 := hid' (neg_neg' a)
  have F6 := hid' (sub_self' a)
  have F7 := hid' (mul_neg' a b)
  have F8 := hid' (add_zero' a)
  have F9 := hid' (mul_zero' a)
  have F10 := hid' (div_zero' a)
  go_enter Tryd.func6, Tryd.ntmps6
  go_wp2_with fail
  refine (shown_any w).mono ?_
  rintro e w1 ⟨rfl, b1⟩
  go_wp2_with fail
  refine (clamp_any a w1).mono ?_
  rintro e w2 ⟨rfl, rfl⟩
  go_wp2_with fail
  refine (add_any a b w2).mono ?_
  rintro e w3 ⟨rfl, rfl⟩
  go_wp2_with fail
  refine (add_any b a w3).mono ?_
  rintro e w4 ⟨rfl, rfl⟩
  rw [F1.out]
  go_wp2_with fail
  refine (mul_any a b w4).mono ?_
  rintro e w5 ⟨rfl, n5, rfl⟩
  go_wp2_with fail
  refine (mul_any b a _).mono ?_
  rintro e w6 ⟨rfl, n6, rfl⟩
  rw [F2.out]
  go_wp2_with fail
  refine (mul_any a 1000000 _).mono ?_
  rintro e w7 ⟨rfl, n7, rfl⟩
  rw [F3.out]
  go_wp2_with fail
  refine (div_any a 1000000 _).mono ?_
  rintro e w8 ⟨rfl, n8, rfl⟩
  rw [F4.out]
  go_wp2_with fail
  refine (neg_any a _).mono ?_
  rintro e w9 ⟨rfl, rfl⟩
  go_wp2_with fail
  refine (neg_any _ _).mono ?_
  rintro e w10 ⟨rfl, rfl⟩
  rw [F5.out]
  go_wp2_with fail
  refine (sub_any a a _).mono ?_
  rintro e w11 ⟨rfl, rfl⟩
  rw [F6.out]
  go_wp2_with fail
  refine (neg_any b _).mono ?_
  rintro e w12 ⟨rfl, rfl⟩
  go_wp2_with fail
  refine (mul_any a _ _).mono ?_
  rintro e w13 ⟨rfl, n13, rfl⟩
  rw [F7.out]
  go_wp2_with fail
  refine (mul_any a b _).mono ?_
  rintro e w14 ⟨rfl, n14, rfl⟩
  go_wp2_with fail
  refine (neg_any _ _).mono ?_
  rintro e w15 ⟨rfl, rfl⟩
  go_wp2_with fail
  refine (add_any a 0 _).mono ?_
  rintro e w16 ⟨rfl, rfl⟩
  rw [F8.out]
  go_wp2_with fail
  refine (mul_any a 0 _).mono ?_
  rintro e w17 ⟨rfl, n17, rfl⟩
  rw [F9.out]
  go_wp2_with fail
  refine (div_any a 0 _).mono ?_
  rintro e w18 ⟨rfl, n18, rfl⟩
  rw [F10.out]
  go_wp2_with fail
  go_ret
  refine ⟨rfl, ?_⟩
  repeat (first | exact b1 | refine Below.drewn ?_ _)
end Go.Proofs.YtljmokbdmfiajaaDoor
