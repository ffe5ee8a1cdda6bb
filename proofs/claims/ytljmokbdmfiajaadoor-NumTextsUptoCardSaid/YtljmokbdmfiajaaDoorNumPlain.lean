/- Proved: the plain functions of num and of its reference (Clamp, Add, Sub, Neg, Whole, split, size, signed, rounded) as contracts: they answer the plain law's numbers and leave the world as it is. No conditions. -/
import Derived.Test.YtljmokbdmfiajaaDoorChecked
import Derived.WalkKit
import Derived.ProofKit
import Derived.OwnWalk
namespace Go.Proofs.YtljmokbdmfiajaaDoor
open Go.RowKit
set_option linter.unusedVariables false

def Hid (p : Prop) : Prop := p
theorem Hid.out {p : Prop} (h : Hid p) : p := h
theorem hid' {p : Prop} (h : p) : Hid p := h
/-- Halts a walk: the goal is put behind a name; 'refine hid' ?_' goes on. -/
theorem halt' {p : Prop} (h : Hid p) : p := h

namespace Num
/-- A number within its limits. -/
def clamp (a : Int) : Int := if 1000000000000000 < a then 1000000000000000 else if a < -1000000000000000 then -1000000000000000 else a
theorem clamp_hi {a : Int} (h : 1000000000000000 < a) : clamp a = 1000000000000000 := by rw [clamp, if_pos h]
theorem clamp_lo {a : Int} (h : a < -1000000000000000) : clamp a = -1000000000000000 := by rw [clamp, if_neg (by omega), if_pos h]
theorem clamp_in {a : Int} (h : -1000000000000000 ≤ a) (h' : a ≤ 1000000000000000) : clamp a = a := by rw [clamp, if_neg (by omega), if_neg (by omega)]
theorem clamp_le (a : Int) : clamp a ≤ 1000000000000000 := by unfold clamp; split <;> (try split) <;> omega
theorem clamp_ge (a : Int) : -1000000000000000 ≤ clamp a := by unfold clamp; split <;> (try split) <;> omega
theorem clamp_clamp (a : Int) : clamp (clamp a) = clamp a := clamp_in (clamp_ge a) (clamp_le a)
theorem clamp_neg (a : Int) : clamp (-a) = -clamp a := by unfold clamp; split <;> (try split) <;> (try split) <;> (try split) <;> omega
def add (a b : Int) : Int := clamp (clamp a + clamp b)
def sub (a b : Int) : Int := clamp (clamp a - clamp b)
def neg (a : Int) : Int := -clamp a
def whole (a : Int) : Int := (clamp a).tdiv 1000000
end Num
open Num
def Ret (v : Value) (w : World) (e : Ending) (w' : World) : Prop := e = .returned v ∧ w' = w

theorem clamp_any (a : Int) (w : World) : Calls Tryd.prog 12 #[.int .i64 a] w (Ret (.int .i64 (clamp a)) w) := by
  rcases (by omega : 1000000000000000 < a ∨ a < -1000000000000000 ∨ (-1000000000000000 ≤ a ∧ a ≤ 1000000000000000)) with h | h | ⟨h, h'⟩
  · rw [clamp_hi h]
    have h1 : ¬ a < 1000000000000000 := by omega
    go_enter Tryd.func12, Tryd.ntmps12
    go_wp2_with fail
    all_goals first | (exfalso; omega) | skip
    all_goals go_ret
    all_goals exact ⟨rfl, rfl⟩
  · rw [clamp_lo h]
    have h1 : a < 1000000000000000 := by omega
    have h2 : a ≤ -1000000000000000 := by omega
    go_enter Tryd.func12, Tryd.ntmps12
    go_wp2_with fail
    all_goals first | (exfalso; omega) | skip
    all_goals go_ret
    all_goals exact ⟨rfl, rfl⟩
  · rw [clamp_in h h']
    by_cases e1 : a = 1000000000000000
    · subst e1
      go_enter Tryd.func12, Tryd.ntmps12
      go_wp2_with fail
      all_goals go_ret
      all_goals exact ⟨rfl, rfl⟩
    · by_cases e2 : a = -1000000000000000
      · subst e2
        go_enter Tryd.func12, Tryd.ntmps12
        go_wp2_with fail
        all_goals go_ret
        all_goals exact ⟨rfl, rfl⟩
      · have h1 : a < 1000000000000000 := by omega
        have h2 : -1000000000000000 < a := by omega
        go_enter Tryd.func12, Tryd.ntmps12
        go_wp2_with fail
        all_goals go_ret
        all_goals exact ⟨rfl, rfl⟩
theorem refclamp_any (a : Int) (w : World) : Calls Tryd.prog 13 #[.int .i64 a] w (Ret (.int .i64 (clamp a)) w) := by
  rcases (by omega : 1000000000000000 < a ∨ a < -1000000000000000 ∨ (-1000000000000000 ≤ a ∧ a ≤ 1000000000000000)) with h | h | ⟨h, h'⟩
  · rw [clamp_hi h]
    go_enter Tryd.func13, Tryd.ntmps13
    go_wp2_with fail
    all_goals go_ret
    all_goals exact ⟨rfl, rfl⟩
  · rw [clamp_lo h]
    have h1 : ¬ 1000000000000000 < a := by omega
    go_enter Tryd.func13, Tryd.ntmps13
    go_wp2_with fail
    all_goals go_ret
    all_goals exact ⟨rfl, rfl⟩
  · rw [clamp_in h h']
    have h1 : ¬ 1000000000000000 < a := by omega
    have h2 : ¬ a < -1000000000000000 := by omega
    go_enter Tryd.func13, Tryd.ntmps13
    go_wp2_with fail
    all_goals go_ret
    all_goals exact ⟨rfl, rfl⟩

theorem add_any (a b : Int) (w : World) : Calls Tryd.prog 14 #[.int .i64 a, .int .i64 b] w (Ret (.int .i64 (add a b)) w) := by
  have a1 := clamp_le a
  have a2 := clamp_ge a
  have b1 := clamp_le b
  have b2 := clamp_ge b
  go_enter Tryd.func14, Tryd.ntmps14
  go_wp2_with fail
  refine (clamp_any a w).mono ?_
  rintro e w1 ⟨rfl, rfl⟩
  go_wp2_with fail
  refine (clamp_any b w1).mono ?_
  rintro e w2 ⟨rfl, rfl⟩
  go_wp2_with fail
  refine (clamp_any _ w2).mono ?_
  rintro e w3 ⟨rfl, rfl⟩
  go_wp2_with fail
  go_ret
  exact ⟨rfl, rfl⟩

theorem sub_any (a b : Int) (w : World) : Calls Tryd.prog 16 #[.int .i64 a, .int .i64 b] w (Ret (.int .i64 (sub a b)) w) := by
  have a1 := clamp_le a
  have a2 := clamp_ge a
  have b1 := clamp_le b
  have b2 := clamp_ge b
  go_enter Tryd.func16, Tryd.ntmps16
  go_wp2_with fail
  refine (clamp_any a w).mono ?_
  rintro e w1 ⟨rfl, rfl⟩
  go_wp2_with fail
  refine (clamp_any b w1).mono ?_
  rintro e w2 ⟨rfl, rfl⟩
  go_wp2_with fail
  refine (clamp_any _ w2).mono ?_
  rintro e w3 ⟨rfl, rfl⟩
  go_wp2_with fail
  go_ret
  exact ⟨rfl, rfl⟩

theorem refadd_any (a b : Int) (w : World) : Calls Tryd.prog 15 #[.int .i64 a, .int .i64 b] w (Ret (.int .i64 (add a b)) w) := by
  have a1 := clamp_le a
  have a2 := clamp_ge a
  have b1 := clamp_le b
  have b2 := clamp_ge b
  go_enter Tryd.func15, Tryd.ntmps15
  go_wp2_with fail
  refine (refclamp_any a w).mono ?_
  rintro e w1 ⟨rfl, rfl⟩
  go_wp2_with fail
  refine (refclamp_any b w1).mono ?_
  rintro e w2 ⟨rfl, rfl⟩
  go_wp2_with fail
  refine (refclamp_any _ w2).mono ?_
  rintro e w3 ⟨rfl, rfl⟩
  go_wp2_with fail
  go_ret
  exact ⟨rfl, rfl⟩

theorem neg_any (a : Int) (w : World) : Calls Tryd.prog 18 #[.int .i64 a] w (Ret (.int .i64 (neg a)) w) := by
  have a1 := clamp_le a
  have a2 := clamp_ge a
  go_enter Tryd.func18, Tryd.ntmps18
  go_wp2_with fail
  refine (clamp_any a w).mono ?_
  rintro e w1 ⟨rfl, rfl⟩
  go_wp2_with fail
  go_ret
  exact ⟨rfl, rfl⟩

theorem refneg_any (a : Int) (w : World) : Calls Tryd.prog 19 #[.int .i64 a] w (Ret (.int .i64 (neg a)) w) := by
  have a1 := clamp_le a
  have a2 := clamp_ge a
  go_enter Tryd.func19, Tryd.ntmps19
  go_wp2_with fail
  refine (refclamp_any a w).mono ?_
  rintro e w1 ⟨rfl, rfl⟩
  go_wp2_with fail
  go_ret
  exact ⟨rfl, rfl⟩

theorem whole_any (a : Int) (w : World) : Calls Tryd.prog 20 #[.int .i64 a] w (Ret (.int .i64 (whole a)) w) := by
  have a1 := clamp_le a
  have a2 := clamp_ge a
  go_enter Tryd.func20, Tryd.ntmps20
  go_wp2_with fail
  refine (clamp_any a w).mono ?_
  rintro e w1 ⟨rfl, rfl⟩
  go_wp2_with fail
  go_ret
  exact ⟨rfl, rfl⟩

theorem refwhole_any (a : Int) (w : World) : Calls Tryd.prog 21 #[.int .i64 a] w (Ret (.int .i64 (whole a)) w) := by
  have a1 := clamp_le a
  have a2 := clamp_ge a
  go_enter Tryd.func21, Tryd.ntmps21
  go_wp2_with fail
  refine (refclamp_any a w).mono ?_
  rintro e w1 ⟨rfl, rfl⟩
  go_wp2_with fail
  go_ret
  exact ⟨rfl, rfl⟩

theorem refsub_any (a b : Int) (w : World) : Calls Tryd.prog 17 #[.int .i64 a, .int .i64 b] w (Ret (.int .i64 (sub a b)) w) := by
  have e : add a (neg b) = sub a b := by
    unfold add neg sub
    rw [clamp_neg, clamp_clamp]
    rfl
  have E := hid' e
  clear e
  go_enter Tryd.func17, Tryd.ntmps17
  go_wp2_with fail
  refine (refneg_any b w).mono ?_
  rintro e w1 ⟨rfl, rfl⟩
  go_wp2_with fail
  refine (refadd_any a _ w1).mono ?_
  rintro e w2 ⟨rfl, rfl⟩
  rw [E.out]
  go_wp2_with fail
  go_ret
  exact ⟨rfl, rfl⟩

theorem split_any (a : Int) (w : World) : Calls Tryd.prog 30 #[.int .i64 a] w (Ret (.tuple #[.int .u64 ((clamp a).natAbs : Int), .bool (decide (clamp a < 0))]) w) := by
  have a1 := clamp_le a
  have a2 := clamp_ge a
  go_enter Tryd.func30, Tryd.ntmps30
  go_wp2_with fail
  refine (clamp_any a w).mono ?_
  rintro e w1 ⟨rfl, rfl⟩
  generalize clamp a = c at *
  by_cases h : c < 0
  · have e1 : IntKind.u64.wrap (-c) = -c := by rw [IntKind.wrap_u64]; omega
    have e2 : ((c.natAbs : Nat) : Int) = -c := by omega
    go_wp2_with fail
    go_ret2
    refine ⟨?_, rfl⟩
    rw [e2, decide_eq_true h]
    rfl
  · have e1 : IntKind.u64.wrap c = c := by rw [IntKind.wrap_u64]; omega
    have e2 : ((c.natAbs : Nat) : Int) = c := by omega
    go_wp2_with fail
    go_ret2
    refine ⟨?_, rfl⟩
    rw [e2, decide_eq_false (by omega)]
    rfl

theorem size_any (a : Int) (ha : -9223372036854775808 < a ∧ a ≤ 9223372036854775807) (w : World) : Calls Tryd.prog 32 #[.int .i64 a] w (Ret (.int .i64 (a.natAbs : Int)) w) := by
  obtain ⟨a1, a2⟩ := ha
  by_cases h : a < 0
  · have e2 : ((a.natAbs : Nat) : Int) = -a := by omega
    rw [e2]
    go_enter Tryd.func32, Tryd.ntmps32
    go_wp2_with fail
    go_ret
    exact ⟨rfl, rfl⟩
  · have e2 : ((a.natAbs : Nat) : Int) = a := by omega
    rw [e2]
    go_enter Tryd.func32, Tryd.ntmps32
    go_wp2_with fail
    go_ret
    exact ⟨rfl, rfl⟩

/-- A number with the sign of two. -/
def signOf (n : Int) (below : Bool) : Int := if below then clamp (-n) else clamp n
theorem signed_any (n a b : Int) (hn : -9223372036854775808 < n ∧ n ≤ 9223372036854775807) (w : World) :
    Calls Tryd.prog 33 #[.int .i64 n, .int .i64 a, .int .i64 b] w (Ret (.int .i64 (signOf n (decide (a < 0) != decide (b < 0)))) w) := by
  obtain ⟨n1, n2⟩ := hn
  by_cases ha : a < 0 <;> by_cases hb : b < 0
  all_goals simp only [ha, hb, decide_true, decide_false, bne_self_eq_false, signOf]
  all_goals go_enter Tryd.func33, Tryd.ntmps33
  all_goals go_wp2_with fail
  all_goals refine (refclamp_any _ w).mono ?_
  all_goals rintro e w1 ⟨rfl, rfl⟩
  all_goals go_wp2_with fail
  all_goals go_ret
  all_goals exact ⟨rfl, rfl⟩

/-- q and r parts of d, as a whole number. -/
def round (q r d : Int) : Int := if r > d - r ∨ (r = d - r ∧ q % 2 = 1) then q + 1 else q
theorem rounded_any (q r d : Int) (hq : 0 ≤ q ∧ q ≤ 9000000000000000000) (hr : 0 ≤ r ∧ r < d) (hd : d ≤ 9000000000000000000) (w : World) :
    Calls Tryd.prog 34 #[.int .i64 q, .int .i64 r, .int .i64 d] w (Ret (.int .i64 (round q r d)) w) := by
  obtain ⟨q1, q2⟩ := hq
  obtain ⟨r1, r2⟩ := hr
  have ht : q.tmod 2 = q % 2 := Int.tmod_eq_emod_of_nonneg q1
  have HT := hid' ht
  by_cases h1 : d - r < r
  · have e : round q r d = q + 1 := by rw [round, if_pos (Or.inl h1)]
    rw [e]
    clear e ht
    go_enter Tryd.func34, Tryd.ntmps34
    go_wp2_with fail
    go_ret
    exact ⟨rfl, rfl⟩
  · by_cases h2 : r = d - r
    · by_cases h3 : q % 2 = 1
      · have e : round q r d = q + 1 := by rw [round, if_pos (Or.inr ⟨h2, h3⟩)]
        rw [e]
        have h2b : d - r = r := by omega
        clear e ht h2 h1
        go_enter Tryd.func34, Tryd.ntmps34
        go_wp2_with fail
        go_ret
        exact ⟨rfl, rfl⟩
      · have e : round q r d = q := by rw [round, if_neg (by omega)]
        rw [e]
        have h2b : d - r = r := by omega
        clear e ht h2 h1
        go_enter Tryd.func34, Tryd.ntmps34
        go_wp2_with fail
        go_ret
        exact ⟨rfl, rfl⟩
    · have e : round q r d = q := by rw [round, if_neg (by omega)]
      rw [e]
      clear e ht
      go_enter Tryd.func34, Tryd.ntmps34
      go_wp2_with fail
      go_ret
      exact ⟨rfl, rfl⟩
end Go.Proofs.YtljmokbdmfiajaaDoor
