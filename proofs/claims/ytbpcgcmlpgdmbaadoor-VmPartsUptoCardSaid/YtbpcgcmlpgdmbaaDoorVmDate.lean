/- Proved: date's leap, days, ahead, clamp, Plus as contracts. -/
import Derived.Test.YtbpcgcmlpgdmbaaDoorBase
import Derived.Outline
namespace Go.Proofs.YtbpcgcmlpgdmbaaDoor
open Go.RowKit
set_option linter.unusedVariables false
set_option linter.unusedSimpArgs false
set_option maxRecDepth 100000
namespace Dt
def leap (y : Int) : Bool := decide (y % 4 = 0) && (!decide (y % 100 = 0) || decide (y % 400 = 0))
def days (y : Int) : Int := if leap y then 366 else 365
def ahead (y : Int) : Int := 365 * (y - 1 - 1899) + (y - 1) / 4 - (y - 1) / 100 + (y - 1) / 400 - 460
def clamp (d : Int) : Int := max 0 (min 73048 d)
def plus (d n : Int) : Int := clamp (clamp d + max (-73048) (min 73048 n))
theorem clamp_ge (d : Int) : 0 ≤ clamp d := by unfold clamp; omega
theorem clamp_le (d : Int) : clamp d ≤ 73048 := by unfold clamp; omega
end Dt
theorem dclamp_any (d : Int) (w : World) : Calls Tryd.prog 37 #[.int .i64 d] w (Ret (.int .i64 (Dt.clamp d)) w) := by
  rcases (by omega : 73048 < d ∨ d = 73048 ∨ (0 < d ∧ d < 73048) ∨ d = 0 ∨ d < 0) with h | h | ⟨h, h'⟩ | h | h
  · rw [show Dt.clamp d = 73048 by unfold Dt.clamp; omega]
    have h1 : ¬ d < 73048 := by omega
    go_enter Tryd.func37, Tryd.ntmps37
    go_wp2_with fail
    go_ret
    exact ⟨rfl, rfl⟩
  · subst h
    go_enter Tryd.func37, Tryd.ntmps37
    go_wp2_with fail
    go_ret
    exact ⟨rfl, rfl⟩
  · rw [show Dt.clamp d = d by unfold Dt.clamp; omega]
    have h1 : d ≤ 73048 := by omega
    go_enter Tryd.func37, Tryd.ntmps37
    go_wp2_with fail
    go_ret
    exact ⟨rfl, rfl⟩
  · subst h
    go_enter Tryd.func37, Tryd.ntmps37
    go_wp2_with fail
    go_ret
    exact ⟨rfl, rfl⟩
  · rw [show Dt.clamp d = 0 by unfold Dt.clamp; omega]
    have h1 : d < 73048 := by omega
    go_enter Tryd.func37, Tryd.ntmps37
    go_wp2_with fail
    go_ret
    exact ⟨rfl, rfl⟩
theorem dplus_any (d n : Int) (w : World) : Calls Tryd.prog 24 #[.int .i64 d, .int .i64 n] w (Ret (.int .i64 (Dt.plus d n)) w) := by
  have a1 := Dt.clamp_ge d
  have a2 := Dt.clamp_le d
  have HP := hid' (show Dt.plus d n = Dt.clamp (Dt.clamp d + max (-73048) (min 73048 n)) from rfl)
  generalize Dt.plus d n = P at *
  have HC := hid' (dclamp_any d w)
  generalize Dt.clamp d = c at *
  rcases (by omega : 73048 < n ∨ n = 73048 ∨ (-73048 < n ∧ n < 73048) ∨ n = -73048 ∨ n < -73048) with h | h | ⟨h, h'⟩ | h | h
  · have e := hid' (show max (-73048) (min 73048 n) = 73048 by omega)
    rw [e.out] at HP
    have h1 : ¬ n < 73048 := by omega
    go_enter Tryd.func24, Tryd.ntmps24
    go_wp2_with (first | (refine HC.out.mono ?_; rintro e w' ⟨rfl, rfl⟩) | (refine (dclamp_any _ _).mono ?_; rintro e w' ⟨rfl, rfl⟩))
    go_ret
    exact ⟨by rw [HP.out]; rfl, rfl⟩
  · subst h
    go_enter Tryd.func24, Tryd.ntmps24
    go_wp2_with (first | (refine HC.out.mono ?_; rintro e w' ⟨rfl, rfl⟩) | (refine (dclamp_any _ _).mono ?_; rintro e w' ⟨rfl, rfl⟩))
    go_ret
    exact ⟨by rw [HP.out]; rfl, rfl⟩
  · have e := hid' (show max (-73048) (min 73048 n) = n by omega)
    rw [e.out] at HP
    go_enter Tryd.func24, Tryd.ntmps24
    go_wp2_with (first | (refine HC.out.mono ?_; rintro e w' ⟨rfl, rfl⟩) | (refine (dclamp_any _ _).mono ?_; rintro e w' ⟨rfl, rfl⟩))
    go_ret
    exact ⟨by rw [HP.out]; rfl, rfl⟩
  · subst h
    go_enter Tryd.func24, Tryd.ntmps24
    go_wp2_with (first | (refine HC.out.mono ?_; rintro e w' ⟨rfl, rfl⟩) | (refine (dclamp_any _ _).mono ?_; rintro e w' ⟨rfl, rfl⟩))
    go_ret
    exact ⟨by rw [HP.out]; rfl, rfl⟩
  · have e := hid' (show max (-73048) (min 73048 n) = -73048 by omega)
    rw [e.out] at HP
    have h1 : n < 73048 := by omega
    go_enter Tryd.func24, Tryd.ntmps24
    go_wp2_with (first | (refine HC.out.mono ?_; rintro e w' ⟨rfl, rfl⟩) | (refine (dclamp_any _ _).mono ?_; rintro e w' ⟨rfl, rfl⟩))
    go_ret
    exact ⟨by rw [HP.out]; rfl, rfl⟩
theorem leap_any (y : Int) (hy : 0 ≤ y ∧ y ≤ 100000) (w : World) : Calls Tryd.prog 74 #[.int .i64 y] w (Ret (.bool (Dt.leap y)) w) := by
  have e4 : y.tmod 4 = y % 4 := Int.tmod_eq_emod_of_nonneg hy.1
  have e5 : y.tmod 100 = y % 100 := Int.tmod_eq_emod_of_nonneg hy.1
  have e6 : y.tmod 400 = y % 400 := Int.tmod_eq_emod_of_nonneg hy.1
  have HL := hid' (show Dt.leap y = (decide (y % 4 = 0) && (!decide (y % 100 = 0) || decide (y % 400 = 0))) from rfl)
  generalize Dt.leap y = L at *
  by_cases h4 : y % 4 = 0
  · by_cases h1 : y % 100 = 0
    · by_cases h2 : y % 400 = 0
      · rw [decide_eq_true h4, decide_eq_true h1, decide_eq_true h2] at HL
        go_enter Tryd.func74, Tryd.ntmps74
        go_wp2_with fail
        go_ret
        exact ⟨by rw [HL.out]; rfl, rfl⟩
      · rw [decide_eq_true h4, decide_eq_true h1, decide_eq_false h2] at HL
        have g2 : (y % 400 == 0) = false := by rw [beq_eq_false_iff_ne]; exact h2
        go_enter Tryd.func74, Tryd.ntmps74
        go_wp2_with fail
        go_ret
        exact ⟨by rw [HL.out]; rfl, rfl⟩
    · have g1 : (y % 100 == 0) = false := by rw [beq_eq_false_iff_ne]; exact h1
      rw [decide_eq_true h4, decide_eq_false h1] at HL
      go_enter Tryd.func74, Tryd.ntmps74
      go_wp2_with fail
      go_ret
      exact ⟨by rw [HL.out]; rfl, rfl⟩
  · have g4 : (y % 4 == 0) = false := by rw [beq_eq_false_iff_ne]; exact h4
    rw [decide_eq_false h4] at HL
    go_enter Tryd.func74, Tryd.ntmps74
    go_wp2_with fail
    go_ret
    exact ⟨by rw [HL.out]; rfl, rfl⟩
theorem days_any (y : Int) (hy : 0 ≤ y ∧ y ≤ 100000) (w : World) : Calls Tryd.prog 73 #[.int .i64 y] w (Ret (.int .i64 (Dt.days y)) w) := by
  have HC := hid' (leap_any y hy w)
  have HD := hid' (show Dt.days y = if Dt.leap y then 366 else 365 from rfl)
  cases hl : Dt.leap y with
  | true =>
    rw [hl] at HC HD
    rw [HD.out]
    clear hl
    go_enter Tryd.func73, Tryd.ntmps73
    go_wp2_with (refine HC.out.mono ?_; rintro e w' ⟨rfl, rfl⟩)
    go_ret
    exact ⟨rfl, rfl⟩
  | false =>
    rw [hl] at HC HD
    rw [HD.out]
    clear hl
    go_enter Tryd.func73, Tryd.ntmps73
    go_wp2_with (refine HC.out.mono ?_; rintro e w' ⟨rfl, rfl⟩)
    go_ret
    exact ⟨rfl, rfl⟩
theorem ahead_any (y : Int) (hy : 1 ≤ y ∧ y ≤ 100000) (w : World) : Calls Tryd.prog 72 #[.int .i64 y] w (Ret (.int .i64 (Dt.ahead y)) w) := by
  have e4 : (y - 1).tdiv 4 = (y - 1) / 4 := Int.tdiv_eq_ediv_of_nonneg (by omega)
  have e5 : (y - 1).tdiv 100 = (y - 1) / 100 := Int.tdiv_eq_ediv_of_nonneg (by omega)
  have e6 : (y - 1).tdiv 400 = (y - 1) / 400 := Int.tdiv_eq_ediv_of_nonneg (by omega)
  have HL := hid' (show Dt.ahead y = 365 * (y - 1 - 1899) + (y - 1) / 4 - (y - 1) / 100 + (y - 1) / 400 - 460 from rfl)
  generalize Dt.ahead y = L at *
  go_enter Tryd.func72, Tryd.ntmps72
  go_wp2_with fail
  go_ret
  exact ⟨by rw [HL.out]; rfl, rfl⟩
end Go.Proofs.YtbpcgcmlpgdmbaaDoor
