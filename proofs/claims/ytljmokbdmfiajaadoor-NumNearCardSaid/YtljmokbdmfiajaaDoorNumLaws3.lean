/- Proved: NumNear as a contract: it returns true and writes nothing that was there. No conditions. -/
import Derived.Test.YtljmokbdmfiajaaDoorNumLaws2
namespace Go.Proofs.YtljmokbdmfiajaaDoor
open Go.RowKit
set_option linter.unusedVariables false
open Num
namespace Num
/-- A quotient of numbers of at most a thousand: near. -/
structure Near (a b Q : Int) : Prop where
  lo : -b ≤ 2 * (Q * b - a * 1000000)
  hi : 2 * (Q * b - a * 1000000) ≤ b
  le : Q ≤ 1000000000000
  ge : -1000000000000 ≤ Q
theorem near_up (n b : Nat) (hb : 1000 ≤ b) (hb2 : b ≤ 1000000000) (hn : n ≤ 1000000000000000) :
    up (n / b) (n % b) b ≤ 1000000000000 ∧ (up (n / b) (n % b) b * b * 2 ≤ n * 2 + b) ∧ n * 2 ≤ up (n / b) (n % b) b * b * 2 + b := by
  have e := Nat.div_add_mod n b
  have m := Nat.mod_lt n (show 0 < b by omega)
  have hq : n / b ≤ 1000000000000 := by
    rw [Nat.div_le_iff_le_mul_add_pred (by omega)]
    omega
  have hz : n / b = 1000000000000 → n % b = 0 := by
    intro h
    rw [h] at e
    omega
  rw [Nat.mul_comm b] at e
  have h1 : (n / b + 1) * b = n / b * b + b := by rw [Nat.add_mul, Nat.one_mul]
  have h2 : (n / b + 1) % 18446744073709551616 = n / b + 1 := Nat.mod_eq_of_lt (by omega)
  generalize n / b = q at *
  generalize n % b = r at *
  unfold up
  split
  · rename_i h
    rw [h2, h1]
    by_cases hq2 : q = 1000000000000
    · have := hz hq2; omega
    · omega
  · rename_i h
    omega
theorem near_div (a b : Int) (h1 : -1000000000 ≤ a) (h2 : a ≤ 1000000000) (h3 : 1000 ≤ b) (h4 : b ≤ 1000000000) : Near a b (div a b) := by
  obtain ⟨B, rfl⟩ := Int.eq_ofNat_of_zero_le (show 0 ≤ b by omega)
  have N := near_up (a.natAbs * 1000000) B (by omega) (by omega) (by omega)
  unfold div
  rw [clamp_in (a := a) (by omega) (by omega), clamp_in (a := (B : Int)) (by omega) (by omega), if_neg (by omega), show decide ((B : Int) < 0) = false by simp, bne_false', Int.natAbs_natCast]
  unfold scl
  rw [if_pos (by omega)]
  generalize up (a.natAbs * 1000000 / B) (a.natAbs * 1000000 % B) B = u at *
  obtain ⟨n1, n2, n3⟩ := N
  have hv : min u 1000000000000000 = u := by omega
  rw [hv]
  have e2 : ((u * B : Nat) : Int) = (u : Int) * (B : Int) := Int.natCast_mul _ _
  generalize u * B = p at *
  by_cases h : a < 0
  · rw [decide_eq_true h, sgn_true]
    refine ⟨?_, ?_, by omega, by omega⟩ <;> rw [Int.neg_mul, ← e2] <;> omega
  · rw [decide_eq_false h, sgn_false]
    refine ⟨?_, ?_, by omega, by omega⟩ <;> rw [← e2] <;> omega
/-- The law's own parts. -/
structure Parts (a b Q p1 p2 : Int) : Prop where
  lo1 : -1000000000000000 ≤ p1
  hi1 : p1 ≤ 1000000000000000
  lo2 : -1000000000000000 ≤ p2
  hi2 : p2 ≤ 1000000000000000
  whole_lo : -(2 * b) ≤ p1 - a
  whole_hi : p1 - a ≤ 2 * b
  rest_lo : -b ≤ 2 * ((p1 - a) * 1000000 + p2)
  rest_hi : 2 * ((p1 - a) * 1000000 + p2) ≤ b
theorem parts (a b Q : Int) (N : Near a b Q) (h1 : -1000000000 ≤ a) (h2 : a ≤ 1000000000) (h3 : 1000 ≤ b) (h4 : b ≤ 1000000000) :
    Parts a b Q (Q.tdiv 1000000 * b) (Q.tmod 1000000 * b) := by
  have e := Int.tmod_add_mul_tdiv Q 1000000
  have m1 : Q.tmod 1000000 < 1000000 := Int.tmod_lt_of_pos _ (by omega)
  have m2 : -1000000 < Q.tmod 1000000 := by
    have := Int.lt_tmod_of_pos Q (show (0 : Int) < 1000000 by omega)
    omega
  have l := N.le
  have g := N.ge
  have nl := N.lo
  have nh := N.hi
  generalize Q.tmod 1000000 = t at *
  generalize Q.tdiv 1000000 = d at *
  subst e
  have e1 : (t + 1000000 * d) * b = t * b + 1000000 * (d * b) := by rw [Int.add_mul, Int.mul_assoc]
  rw [e1] at nl nh
  have t1 : t * b ≤ 1000000 * b := Int.mul_le_mul_of_nonneg_right (by omega) (by omega)
  have t2 : -1000000 * b ≤ t * b := Int.mul_le_mul_of_nonneg_right (by omega) (by omega)
  generalize t * b = x at *
  generalize d * b = y at *
  exact ⟨by omega, by omega, by omega, by omega, by omega, by omega, by omega, by omega⟩
end Num

set_option maxHeartbeats 2000000 in
theorem law_near (a b : Int) (w : World) : Calls Tryd.prog 4 #[.int .i64 a, .int .i64 b] w (True1 w) := by
  by_cases hin : -1000000000 ≤ a ∧ a ≤ 1000000000 ∧ 1000 ≤ b ∧ b ≤ 1000000000
  · obtain ⟨h1, h2, h3, h4⟩ := hin
    have N := near_div a b h1 h2 h3 h4
    have P := parts a b _ N h1 h2 h3 h4
    have l := N.le
    have g := N.ge
    have HD := div_any a b
    generalize div a b = Q at *
    obtain ⟨p1, p2, p3, p4, p5, p6, p7, p8⟩ := P
    have E1 : IntKind.i64.wrap (Q.tdiv 1000000 * b) = Q.tdiv 1000000 * b := IntWalk.i64_in _ (by omega)
    have E2 : IntKind.i64.wrap (Q.tmod 1000000 * b) = Q.tmod 1000000 * b := IntWalk.i64_in _ (by omega)
    clear N
    go_enter Tryd.func4, Tryd.ntmps4
    go_wp2_with fail
    refine (shown_any w).mono ?_
    rintro e w1 ⟨rfl, b1⟩
    go_wp2_with fail
    refine (HD _).mono ?_
    rintro e w2 ⟨rfl, n2, rfl⟩
    go_wp2_with fail
    go_ret
    exact ⟨rfl, Below.drewn b1 n2⟩
  · rcases (by omega : a < -1000000000 ∨ (-1000000000 ≤ a ∧ 1000000000 < a) ∨ (-1000000000 ≤ a ∧ a ≤ 1000000000 ∧ b < 1000) ∨ (-1000000000 ≤ a ∧ a ≤ 1000000000 ∧ 1000 ≤ b ∧ 1000000000 < b)) with h | ⟨h, h2⟩ | ⟨h, h2, h3⟩ | ⟨h, h2, h3, h4⟩
    all_goals clear hin
    all_goals go_enter Tryd.func4, Tryd.ntmps4
    all_goals go_wp2_with fail
    all_goals refine (shown_any w).mono ?_
    all_goals rintro e w1 ⟨rfl, b1⟩
    all_goals go_wp2_with fail
    all_goals go_ret
    all_goals exact ⟨rfl, b1⟩
end Go.Proofs.YtljmokbdmfiajaaDoor
