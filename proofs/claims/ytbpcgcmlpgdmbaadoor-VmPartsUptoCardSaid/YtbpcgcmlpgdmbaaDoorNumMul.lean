/- Proved: scaled, Mul, Div as contracts: they answer the plain law's numbers (with the wrap of the rounded quotient) and draw at most. -/
import Derived.Test.YtbpcgcmlpgdmbaaDoorNumDiv
namespace Go.Proofs.YtbpcgcmlpgdmbaaDoor
open Go.RowKit
set_option linter.unusedVariables false

namespace Num
/-- A quotient of 64 bits, rounded as the program does. -/
def up (q r d : Nat) : Nat := if r > d - r ∨ (r = d - r ∧ q % 2 = 1) then (q + 1) % 18446744073709551616 else q
/-- The size of x y / d. -/
def scl (x y d : Nat) : Nat :=
  if x * y / 18446744073709551616 < d then min (up (x * y / d) (x * y % d) d) 1000000000000000 else 1000000000000000
def sgn (b : Bool) (n : Nat) : Int := if b then -(n : Int) else (n : Int)
def mul (a b : Int) : Int := sgn (decide (clamp a < 0) != decide (clamp b < 0)) (scl (clamp a).natAbs (clamp b).natAbs 1000000)
def div (a b : Int) : Int := if clamp b = 0 then 0 else sgn (decide (clamp a < 0) != decide (clamp b < 0)) (scl (clamp a).natAbs 1000000 (clamp b).natAbs)
end Num
open Num

/-- The last lines of scaled: the sign. -/
theorem sgn_true (n : Nat) : sgn true n = -(n : Int) := rfl
theorem sgn_false (n : Nat) : sgn false n = (n : Int) := rfl

set_option maxHeartbeats 1000000 in
theorem scaled_any (x y d : Nat) (b : Bool) (hx : x < 18446744073709551616) (hy : y < 18446744073709551616) (hd : 0 < d) (hd2 : d < 18446744073709551616) (w : World) :
    Calls Tryd.prog 42 #[.int .u64 (x : Int), .int .u64 (y : Int), .int .u64 (d : Int), .bool b] w (Drew (.int .i64 (sgn b (scl x y d))) w) := by
  obtain ⟨hi, hhi⟩ : ∃ hi, Hid (hi = x * y / 18446744073709551616) := ⟨_, rfl⟩
  obtain ⟨lo, hlo⟩ : ∃ lo, Hid (lo = x * y % 18446744073709551616) := ⟨_, rfl⟩
  have b2 : lo < 18446744073709551616 := by rw [hlo.out]; exact Nat.mod_lt _ (by omega)
  have hN : hi * 18446744073709551616 + lo = x * y := by rw [hhi.out, hlo.out]; omega
  have HN := hid' hN
  have M := Tryd.bits_Mul64 x y hx hy w
  rw [← hhi.out, ← hlo.out] at M
  have HM := hid' M
  have b3 : hi ≤ 18446744073709551615 := by
    have h3 : x * y ≤ 18446744073709551615 * 18446744073709551616 := Nat.mul_le_mul (by omega) (by omega)
    omega
  clear M hN
  by_cases h : hi < d
  · have hS : scl x y d = min (up (x * y / d) (x * y % d) d) 1000000000000000 := by rw [scl, ← hhi.out, if_pos h]
    have D := div64_any hi lo d h hd2 b2 w
    rw [HN.out] at D
    have r1 : x * y % d < d := Nat.mod_lt _ hd
    have q1 : x * y / d < 18446744073709551616 := by
      rw [Nat.div_lt_iff_lt_mul hd]
      have := HN.out
      have h5 : (hi + 1) * 18446744073709551616 ≤ d * 18446744073709551616 := Nat.mul_le_mul_right _ h
      omega
    rw [hS]
    generalize x * y / d = q at *
    generalize x * y % d = r at *
    have HD := hid' D
    have h' : (hi : Int) < (d : Int) := by omega
    have q2 : (q : Int) ≤ 18446744073709551615 := by omega
    have d1 : (d : Int) ≤ 18446744073709551615 := by omega
    have r2 : (r : Int) < (d : Int) := by omega
    have d0 : (0 : Int) < (d : Int) := by omega
    clear D hS h q1 hhi hlo HN hx hy hd hd2 b2 b3 r1
    by_cases c1 : (d : Int) - (r : Int) < (r : Int)
    · have hu : up q r d = (q + 1) % 18446744073709551616 := by rw [up, if_pos (by omega)]
      have e2 : IntKind.u64.wrap ((q : Int) + 1) = (((q + 1) % 18446744073709551616 : Nat) : Int) := by rw [IntKind.wrap_u64]; omega
      have p1 : (q + 1) % 18446744073709551616 < 18446744073709551616 := Nat.mod_lt _ (by omega)
      rw [hu]
      have p2 : (((q + 1) % 18446744073709551616 : Nat) : Int) ≤ 18446744073709551615 := by omega
      generalize (q + 1) % 18446744073709551616 = P at *
      clear hu p1
      by_cases hp : (P : Int) < 1000000000000000
      · have hv : min P 1000000000000000 = P := by omega
        rw [hv]
        have hp2 : decide ((P : Int) < 1000000000000000) = true := by simp; omega
        have e3 : IntKind.i64.wrap (P : Int) = (P : Int) := IntWalk.i64_in _ (by omega)
        clear hv
        cases b
        all_goals go_enter Tryd.func42, Tryd.ntmps42
        all_goals go_wp2_with fail
        all_goals refine HM.out.mono ?_
        all_goals rintro e w1 ⟨rfl, rfl⟩
        all_goals go_wp2_with fail
        all_goals refine (HD.out).mono ?_
        all_goals rintro e w2 ⟨rfl, nd, rfl⟩
        all_goals go_wp2_with fail
        all_goals go_ret
        all_goals exact ⟨rfl, nd, rfl⟩
      · have hv : min P 1000000000000000 = 1000000000000000 := by omega
        rw [hv]
        have hp2 : decide ((P : Int) < 1000000000000000) = false := by simp; omega
        clear hv
        cases b
        all_goals go_enter Tryd.func42, Tryd.ntmps42
        all_goals go_wp2_with fail
        all_goals refine HM.out.mono ?_
        all_goals rintro e w1 ⟨rfl, rfl⟩
        all_goals go_wp2_with fail
        all_goals refine (HD.out).mono ?_
        all_goals rintro e w2 ⟨rfl, nd, rfl⟩
        all_goals go_wp2_with fail
        all_goals go_ret
        all_goals exact ⟨rfl, nd, rfl⟩
    · by_cases c2 : (r : Int) = (d : Int) - (r : Int)
      · have c3 : (d : Int) - (r : Int) = (r : Int) := by omega
        by_cases c4 : (q : Int) % 2 = 1
        · have hu : up q r d = (q + 1) % 18446744073709551616 := by rw [up, if_pos (by omega)]
          have e2 : IntKind.u64.wrap ((q : Int) + 1) = (((q + 1) % 18446744073709551616 : Nat) : Int) := by rw [IntKind.wrap_u64]; omega
          have p1 : (q + 1) % 18446744073709551616 < 18446744073709551616 := Nat.mod_lt _ (by omega)
          rw [hu]
          have p2 : (((q + 1) % 18446744073709551616 : Nat) : Int) ≤ 18446744073709551615 := by omega
          generalize (q + 1) % 18446744073709551616 = P at *
          clear hu c2 c1 p1
          by_cases hp : (P : Int) < 1000000000000000
          · have hv : min P 1000000000000000 = P := by omega
            rw [hv]
            have hp2 : decide ((P : Int) < 1000000000000000) = true := by simp; omega
            have e3 : IntKind.i64.wrap (P : Int) = (P : Int) := IntWalk.i64_in _ (by omega)
            clear hv
            cases b
            all_goals go_enter Tryd.func42, Tryd.ntmps42
            all_goals go_wp2_with fail
            all_goals refine HM.out.mono ?_
            all_goals rintro e w1 ⟨rfl, rfl⟩
            all_goals go_wp2_with fail
            all_goals refine (HD.out).mono ?_
            all_goals rintro e w2 ⟨rfl, nd, rfl⟩
            all_goals go_wp2_with fail
            all_goals go_ret
            all_goals exact ⟨rfl, nd, rfl⟩
          · have hv : min P 1000000000000000 = 1000000000000000 := by omega
            rw [hv]
            have hp2 : decide ((P : Int) < 1000000000000000) = false := by simp; omega
            clear hv
            cases b
            all_goals go_enter Tryd.func42, Tryd.ntmps42
            all_goals go_wp2_with fail
            all_goals refine HM.out.mono ?_
            all_goals rintro e w1 ⟨rfl, rfl⟩
            all_goals go_wp2_with fail
            all_goals refine (HD.out).mono ?_
            all_goals rintro e w2 ⟨rfl, nd, rfl⟩
            all_goals go_wp2_with fail
            all_goals go_ret
            all_goals exact ⟨rfl, nd, rfl⟩
        · have hu : up q r d = q := by rw [up, if_neg (by omega)]
          rw [hu]
          have c5 : ((q : Int) % 2 == 1) = false := by rw [beq_eq_false_iff_ne]; exact c4
          clear hu c2 c1
          by_cases hp : (q : Int) < 1000000000000000
          · have hv : min q 1000000000000000 = q := by omega
            rw [hv]
            have hp2 : decide ((q : Int) < 1000000000000000) = true := by simp; omega
            have e3 : IntKind.i64.wrap (q : Int) = (q : Int) := IntWalk.i64_in _ (by omega)
            clear hv
            cases b
            all_goals go_enter Tryd.func42, Tryd.ntmps42
            all_goals go_wp2_with fail
            all_goals refine HM.out.mono ?_
            all_goals rintro e w1 ⟨rfl, rfl⟩
            all_goals go_wp2_with fail
            all_goals refine (HD.out).mono ?_
            all_goals rintro e w2 ⟨rfl, nd, rfl⟩
            all_goals go_wp2_with fail
            all_goals go_ret
            all_goals exact ⟨rfl, nd, rfl⟩
          · have hv : min q 1000000000000000 = 1000000000000000 := by omega
            rw [hv]
            have hp2 : decide ((q : Int) < 1000000000000000) = false := by simp; omega
            clear hv
            cases b
            all_goals go_enter Tryd.func42, Tryd.ntmps42
            all_goals go_wp2_with fail
            all_goals refine HM.out.mono ?_
            all_goals rintro e w1 ⟨rfl, rfl⟩
            all_goals go_wp2_with fail
            all_goals refine (HD.out).mono ?_
            all_goals rintro e w2 ⟨rfl, nd, rfl⟩
            all_goals go_wp2_with fail
            all_goals go_ret
            all_goals exact ⟨rfl, nd, rfl⟩
      · have hu : up q r d = q := by rw [up, if_neg (by omega)]
        rw [hu]
        have c5 : ((r : Int) == (d : Int) - (r : Int)) = false := by rw [beq_eq_false_iff_ne]; exact c2
        have c6 : decide ((d : Int) - (r : Int) < (r : Int)) = false := by simp; omega
        clear hu
        by_cases hp : (q : Int) < 1000000000000000
        · have hv : min q 1000000000000000 = q := by omega
          rw [hv]
          have hp2 : decide ((q : Int) < 1000000000000000) = true := by simp; omega
          have e3 : IntKind.i64.wrap (q : Int) = (q : Int) := IntWalk.i64_in _ (by omega)
          clear hv
          cases b
          all_goals go_enter Tryd.func42, Tryd.ntmps42
          all_goals go_wp2_with fail
          all_goals refine HM.out.mono ?_
          all_goals rintro e w1 ⟨rfl, rfl⟩
          all_goals go_wp2_with fail
          all_goals refine (HD.out).mono ?_
          all_goals rintro e w2 ⟨rfl, nd, rfl⟩
          all_goals go_wp2_with fail
          all_goals go_ret
          all_goals exact ⟨rfl, nd, rfl⟩
        · have hv : min q 1000000000000000 = 1000000000000000 := by omega
          rw [hv]
          have hp2 : decide ((q : Int) < 1000000000000000) = false := by simp; omega
          clear hv
          cases b
          all_goals go_enter Tryd.func42, Tryd.ntmps42
          all_goals go_wp2_with fail
          all_goals refine HM.out.mono ?_
          all_goals rintro e w1 ⟨rfl, rfl⟩
          all_goals go_wp2_with fail
          all_goals refine (HD.out).mono ?_
          all_goals rintro e w2 ⟨rfl, nd, rfl⟩
          all_goals go_wp2_with fail
          all_goals go_ret
          all_goals exact ⟨rfl, nd, rfl⟩
  · have hS : scl x y d = 1000000000000000 := by rw [scl, ← hhi.out, if_neg h]
    rw [hS]
    have h' : ¬ (hi : Int) < (d : Int) := by omega
    clear hS h hhi hlo HN
    cases b
    all_goals go_enter Tryd.func42, Tryd.ntmps42
    all_goals go_wp2_with fail
    all_goals refine HM.out.mono ?_
    all_goals rintro e w1 ⟨rfl, rfl⟩
    all_goals go_wp2_with fail
    all_goals go_ret
    all_goals exact ⟨rfl, 0, rfl⟩

theorem abs_fits (a : Int) : (clamp a).natAbs ≤ 1000000000000000 := by
  have := clamp_le a
  have := clamp_ge a
  omega
set_option maxHeartbeats 1000000 in
theorem mul_any (a b : Int) (w : World) : Calls Tryd.prog 27 #[.int .i64 a, .int .i64 b] w (Drew (.int .i64 (mul a b)) w) := by
  have HA := hid' (split_any a w)
  have HB := hid' (split_any b w)
  have h1 := abs_fits a
  have h2 := abs_fits b
  have HS := hid' (scaled_any (clamp a).natAbs (clamp b).natAbs 1000000 (decide (clamp a < 0) != decide (clamp b < 0)) (by omega) (by omega) (by omega) (by omega) w)
  have e : mul a b = sgn (decide (clamp a < 0) != decide (clamp b < 0)) (scl (clamp a).natAbs (clamp b).natAbs 1000000) := rfl
  rw [e]
  clear e h1 h2
  generalize (clamp a).natAbs = x at *
  generalize (clamp b).natAbs = y at *
  generalize decide (clamp a < 0) = i at *
  generalize decide (clamp b < 0) = j at *
  go_enter Tryd.func27, Tryd.ntmps27
  go_wp2_with fail
  refine HA.out.mono ?_
  rintro e w1 ⟨rfl, rfl⟩
  go_wp2_with fail
  refine HB.out.mono ?_
  rintro e w1 ⟨rfl, rfl⟩
  cases i <;> cases j
  all_goals go_wp2_with fail
  all_goals refine HS.out.mono ?_
  all_goals rintro e w1 ⟨rfl, nd, rfl⟩
  all_goals go_wp2_with fail
  all_goals go_ret
  all_goals exact ⟨rfl, nd, rfl⟩

set_option maxHeartbeats 1000000 in
theorem div_any (a b : Int) (w : World) : Calls Tryd.prog 46 #[.int .i64 a, .int .i64 b] w (Drew (.int .i64 (div a b)) w) := by
  have HA := hid' (split_any a w)
  have HB := hid' (split_any b w)
  have h1 := abs_fits a
  have h2 := abs_fits b
  by_cases hb : clamp b = 0
  · have e : div a b = 0 := by rw [div, if_pos hb]
    rw [e]
    rw [hb] at HB
    clear e h1 h2 hb
    go_enter Tryd.func46, Tryd.ntmps46
    go_wp2_with fail
    refine HA.out.mono ?_
    rintro e w1 ⟨rfl, rfl⟩
    go_wp2_with fail
    refine HB.out.mono ?_
    rintro e w1 ⟨rfl, rfl⟩
    go_wp2_with fail
    go_ret
    exact ⟨rfl, 0, rfl⟩
  · have e : div a b = sgn (decide (clamp a < 0) != decide (clamp b < 0)) (scl (clamp a).natAbs 1000000 (clamp b).natAbs) := by rw [div, if_neg hb]
    rw [e]
    have h0 : 0 < (clamp b).natAbs := by omega
    have HS := hid' (scaled_any (clamp a).natAbs 1000000 (clamp b).natAbs (decide (clamp a < 0) != decide (clamp b < 0)) (by omega) (by omega) (by omega) (by omega) w)
    clear e h1 h2 hb
    generalize (clamp a).natAbs = x at *
    generalize (clamp b).natAbs = y at *
    generalize decide (clamp a < 0) = i at *
    generalize decide (clamp b < 0) = j at *
    have hy : ((y : Int) == 0) = false := by rw [beq_eq_false_iff_ne]; omega
    go_enter Tryd.func46, Tryd.ntmps46
    go_wp2_with fail
    refine HA.out.mono ?_
    rintro e w1 ⟨rfl, rfl⟩
    go_wp2_with fail
    refine HB.out.mono ?_
    rintro e w1 ⟨rfl, rfl⟩
    cases i <;> cases j
    all_goals go_wp2_with fail
    all_goals refine HS.out.mono ?_
    all_goals rintro e w1 ⟨rfl, nd, rfl⟩
    all_goals go_wp2_with fail
    all_goals go_ret
    all_goals exact ⟨rfl, nd, rfl⟩
end Go.Proofs.YtbpcgcmlpgdmbaaDoor
