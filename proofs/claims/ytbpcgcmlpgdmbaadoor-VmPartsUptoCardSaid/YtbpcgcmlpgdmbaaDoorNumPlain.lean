/- Proved: the plain functions of num and of its reference (Clamp, Add, Sub, Neg, Whole, split, size, signed, rounded) as contracts: they answer the plain law's numbers and leave the world as it is. No conditions. -/
import Derived.Test.YtbpcgcmlpgdmbaaDoorBase
namespace Go.Proofs.YtbpcgcmlpgdmbaaDoor
open Go.RowKit
set_option linter.unusedVariables false

namespace Num
/-- A number within its limits. -/
def clamp (a : Int) : Int := if 1000000000000000 < a then 1000000000000000 else if a < -1000000000000000 then -1000000000000000 else a
theorem clamp_hi {a : Int} (h : 1000000000000000 < a) : clamp a = 1000000000000000 := by rw [clamp, if_pos h]
theorem clamp_lo {a : Int} (h : a < -1000000000000000) : clamp a = -1000000000000000 := by rw [clamp, if_neg (by omega), if_pos h]
theorem clamp_in {a : Int} (h : -1000000000000000 ≤ a) (h' : a ≤ 1000000000000000) : clamp a = a := by rw [clamp, if_neg (by omega), if_neg (by omega)]
theorem clamp_le (a : Int) : clamp a ≤ 1000000000000000 := by unfold clamp; split <;> (try split) <;> omega
theorem clamp_ge (a : Int) : -1000000000000000 ≤ clamp a := by unfold clamp; split <;> (try split) <;> omega
theorem clamp_clamp (a : Int) : clamp (clamp a) = clamp a := clamp_in (clamp_ge a) (clamp_le a)
theorem clamp_neg (a : Int) : clamp (-a) = -clamp a := by unfold clamp; split <;> (try split) <;> (try split) <;> (try split) <;> omega
def add (a b : Int) : Int := clamp (clamp a + clamp b)
def sub (a b : Int) : Int := clamp (clamp a - clamp b)
def neg (a : Int) : Int := -clamp a
def whole (a : Int) : Int := (clamp a).tdiv 1000000
end Num
open Num
theorem clamp_any (a : Int) (w : World) : Calls Tryd.prog 15 #[.int .i64 a] w (Ret (.int .i64 (clamp a)) w) := by
  rcases (by omega : 1000000000000000 < a ∨ a < -1000000000000000 ∨ (-1000000000000000 ≤ a ∧ a ≤ 1000000000000000)) with h | h | ⟨h, h'⟩
  · rw [clamp_hi h]
    have h1 : ¬ a < 1000000000000000 := by omega
    go_enter Tryd.func15, Tryd.ntmps15
    go_wp2_with fail
    all_goals first | (exfalso; omega) | skip
    all_goals go_ret
    all_goals exact ⟨rfl, rfl⟩
  · rw [clamp_lo h]
    have h1 : a < 1000000000000000 := by omega
    have h2 : a ≤ -1000000000000000 := by omega
    go_enter Tryd.func15, Tryd.ntmps15
    go_wp2_with fail
    all_goals first | (exfalso; omega) | skip
    all_goals go_ret
    all_goals exact ⟨rfl, rfl⟩
  · rw [clamp_in h h']
    by_cases e1 : a = 1000000000000000
    · subst e1
      go_enter Tryd.func15, Tryd.ntmps15
      go_wp2_with fail
      all_goals go_ret
      all_goals exact ⟨rfl, rfl⟩
    · by_cases e2 : a = -1000000000000000
      · subst e2
        go_enter Tryd.func15, Tryd.ntmps15
        go_wp2_with fail
        all_goals go_ret
        all_goals exact ⟨rfl, rfl⟩
      · have h1 : a < 1000000000000000 := by omega
        have h2 : -1000000000000000 < a := by omega
        go_enter Tryd.func15, Tryd.ntmps15
        go_wp2_with fail
        all_goals go_ret
        all_goals exact ⟨rfl, rfl⟩
theorem add_any (a b : Int) (w : World) : Calls Tryd.prog 44 #[.int .i64 a, .int .i64 b] w (Ret (.int .i64 (add a b)) w) := by
  have a1 := clamp_le a
  have a2 := clamp_ge a
  have b1 := clamp_le b
  have b2 := clamp_ge b
  go_enter Tryd.func44, Tryd.ntmps44
  go_wp2_with fail
  refine (clamp_any a w).mono ?_
  rintro e w1 ⟨rfl, rfl⟩
  go_wp2_with fail
  refine (clamp_any b w1).mono ?_
  rintro e w2 ⟨rfl, rfl⟩
  go_wp2_with fail
  refine (clamp_any _ w2).mono ?_
  rintro e w3 ⟨rfl, rfl⟩
  go_wp2_with fail
  go_ret
  exact ⟨rfl, rfl⟩

theorem sub_any (a b : Int) (w : World) : Calls Tryd.prog 45 #[.int .i64 a, .int .i64 b] w (Ret (.int .i64 (sub a b)) w) := by
  have a1 := clamp_le a
  have a2 := clamp_ge a
  have b1 := clamp_le b
  have b2 := clamp_ge b
  go_enter Tryd.func45, Tryd.ntmps45
  go_wp2_with fail
  refine (clamp_any a w).mono ?_
  rintro e w1 ⟨rfl, rfl⟩
  go_wp2_with fail
  refine (clamp_any b w1).mono ?_
  rintro e w2 ⟨rfl, rfl⟩
  go_wp2_with fail
  refine (clamp_any _ w2).mono ?_
  rintro e w3 ⟨rfl, rfl⟩
  go_wp2_with fail
  go_ret
  exact ⟨rfl, rfl⟩

theorem neg_any (a : Int) (w : World) : Calls Tryd.prog 28 #[.int .i64 a] w (Ret (.int .i64 (neg a)) w) := by
  have a1 := clamp_le a
  have a2 := clamp_ge a
  go_enter Tryd.func28, Tryd.ntmps28
  go_wp2_with fail
  refine (clamp_any a w).mono ?_
  rintro e w1 ⟨rfl, rfl⟩
  go_wp2_with fail
  go_ret
  exact ⟨rfl, rfl⟩

theorem whole_any (a : Int) (w : World) : Calls Tryd.prog 47 #[.int .i64 a] w (Ret (.int .i64 (whole a)) w) := by
  have a1 := clamp_le a
  have a2 := clamp_ge a
  go_enter Tryd.func47, Tryd.ntmps47
  go_wp2_with fail
  refine (clamp_any a w).mono ?_
  rintro e w1 ⟨rfl, rfl⟩
  go_wp2_with fail
  go_ret
  exact ⟨rfl, rfl⟩

theorem split_any (a : Int) (w : World) : Calls Tryd.prog 41 #[.int .i64 a] w (Ret (.tuple #[.int .u64 ((clamp a).natAbs : Int), .bool (decide (clamp a < 0))]) w) := by
  have a1 := clamp_le a
  have a2 := clamp_ge a
  go_enter Tryd.func41, Tryd.ntmps41
  go_wp2_with fail
  refine (clamp_any a w).mono ?_
  rintro e w1 ⟨rfl, rfl⟩
  generalize clamp a = c at *
  by_cases h : c < 0
  · have e1 : IntKind.u64.wrap (-c) = -c := by rw [IntKind.wrap_u64]; omega
    have e2 : ((c.natAbs : Nat) : Int) = -c := by omega
    go_wp2_with fail
    go_ret2
    refine ⟨?_, rfl⟩
    rw [e2, decide_eq_true h]
    rfl
  · have e1 : IntKind.u64.wrap c = c := by rw [IntKind.wrap_u64]; omega
    have e2 : ((c.natAbs : Nat) : Int) = c := by omega
    go_wp2_with fail
    go_ret2
    refine ⟨?_, rfl⟩
    rw [e2, decide_eq_false (by omega)]
    rfl

/-- A number with the sign of two. -/
def signOf (n : Int) (below : Bool) : Int := if below then clamp (-n) else clamp n
/-- q and r parts of d, as a whole number. -/
def round (q r d : Int) : Int := if r > d - r ∨ (r = d - r ∧ q % 2 = 1) then q + 1 else q
end Go.Proofs.YtbpcgcmlpgdmbaaDoor
