/- Proved: what a text says as a number, in plain words, and its laws. No program in sight. -/
import Derived.Lib.IndexMore
import Derived.Lib.Strings
import Derived.Lib.SlTrimSet
namespace Go.Proofs.YtljmokbdmfiajaaDoor
set_option linter.unusedVariables false
namespace Num
def isDig (c : UInt8) : Bool := 48 ≤ c.toNat && c.toNat ≤ 57
def digSet : List UInt8 := [48, 49, 50, 51, 52, 53, 54, 55, 56, 57]
theorem digSet_contains (c : UInt8) : digSet.contains c = isDig c := by
  revert c
  have : ∀ n : Fin 256, digSet.contains (UInt8.ofNat n.val) = isDig (UInt8.ofNat n.val) := by decide +kernel
  intro c
  have h := this ⟨c.toNat, c.toNat_lt⟩
  simpa using h
def isDigs (l : List UInt8) : Bool := !l.isEmpty && l.all isDig
theorem dropWhile_nil {α : Type} (p : α → Bool) (l : List α) : l.dropWhile p = [] ↔ l.all p = true := by
  induction l with
  | nil => simp
  | cons a l ih =>
    rw [List.dropWhile_cons]
    by_cases h : p a = true
    · rw [if_pos h, ih]; simp [h]
    · rw [if_neg h]; simp [h]
theorem trim_nil (l : List UInt8) : (Lib.trimS l digSet = []) ↔ l.all isDig = true := by
  have e : (fun x => digSet.contains x) = isDig := funext digSet_contains
  unfold Lib.trimS Lib.trimLeftS Lib.trimRightS
  rw [e, dropWhile_nil]
  constructor
  · intro h
    have h2 : (l.reverse.dropWhile isDig).all isDig = true := by simpa using h
    have h3 : l.reverse.dropWhile isDig = [] := by
      cases hc : l.reverse.dropWhile isDig with
      | nil => rfl
      | cons a t =>
        have h4 := List.head?_dropWhile_not isDig l.reverse
        rw [hc] at h4 h2
        simp at h4 h2
        rw [h2.1] at h4
        cases h4
    rw [dropWhile_nil] at h3
    simpa using h3
  · intro h
    have h3 : l.reverse.dropWhile isDig = [] := by rw [dropWhile_nil]; simpa using h
    rw [h3]
    rfl
/-- Digits as a number, behind a number. -/
def valFrom (n : Nat) (l : List UInt8) : Nat := l.foldl (fun n c => 10 * n + (c.toNat - 48)) n
def noughts (k : Nat) : List UInt8 := List.replicate k 48
def badWhole (l : List UInt8) : Bool := !isDigs l || decide (10 < l.length) || (decide (1 < l.length) && (l.head? == some 48))
def badPart (l : List UInt8) : Bool := !isDigs l || decide (6 < l.length)
/-- The number that three parts say. -/
def tell (below : Bool) (n : Nat) : Int × Bool :=
  if 1000000000000000 < n ∨ (below = true ∧ n = 0) then (0, false) else if below then (-(n : Int), true) else ((n : Int), true)
def parts3 (below : Bool) (whole part : List UInt8) (point : Bool) : Int × Bool :=
  if badWhole whole then (0, false) else if point && badPart part then (0, false)
  else tell below (valFrom 0 (whole ++ part ++ noughts (6 - part.length)))
def parse (l : List UInt8) : Int × Bool :=
  let c := Lib.cut (Lib.trimPrefix l [45]) [46]
  parts3 (Lib.hasPrefix l [45]) c.1 c.2.1 c.2.2
theorem valFrom_append (n : Nat) (a b : List UInt8) : valFrom n (a ++ b) = valFrom (valFrom n a) b := List.foldl_append
theorem valFrom_lt (l : List UInt8) (h : l.all isDig = true) : ∀ n k, n < 10 ^ k → valFrom n l < 10 ^ (k + l.length) := by
  induction l with
  | nil => intro n k h; exact h
  | cons c l ih =>
    intro n k hn
    simp only [List.all_cons, Bool.and_eq_true] at h
    have hc : c.toNat - 48 ≤ 9 := by have := h.1; unfold isDig at this; simp at this; omega
    have := ih h.2 (10 * n + (c.toNat - 48)) (k + 1) (by rw [Nat.pow_succ]; omega)
    rw [List.length_cons, show k + (l.length + 1) = k + 1 + l.length by omega]
    exact this
theorem all_noughts (k : Nat) : (noughts k).all isDig = true := by
  unfold noughts; rw [List.all_replicate]; split <;> rfl
end Num
end Go.Proofs.YtljmokbdmfiajaaDoor
