/- Proved: lemmas and contracts of the functions that the law reaches, part 14 of 28: NumShow. Conditions: as each states. -/
import Derived.Test.YtcpobnknmegkmaaGreatDoorShelf
import Derived.Test.YtcpobnknmegkmaaGreatDoorDne7
namespace Go.Proofs.YtcpobnknmegkmaaGreatDoor
open Go.RowKit
set_option linter.unusedVariables false

namespace Num
/-- What so many rounds leave: the text, the rest. -/
def go1 (x : Nat) : Nat → ByteArray × Nat
  | 0 => (⟨#[]⟩, x)
  | i + 1 => (pre (go1 x i).2 (go1 x i).1, (go1 x i).2 / 10)
theorem go1_size (x i : Nat) : (go1 x i).1.size = i := by
  induction i with
  | zero => rfl
  | succ i ih => rw [go1, pre_size, ih]
theorem go1_rest (x i : Nat) : (go1 x i).2 ≤ x := by
  induction i with
  | zero => exact Nat.le_refl _
  | succ i ih => exact Nat.le_trans (Nat.div_le_self _ _) ih
/-- A number in digits, ahead of a text. -/
def decOnto (n : Nat) (s : ByteArray) : ByteArray := if h : n < 10 then pre n s else decOnto (n / 10) (pre n s)
termination_by n
def tailOf (s : ByteArray) : ByteArray := ⟨(Lib.trimRightB s.data.toList 48).toArray⟩
theorem tailOf_le (s : ByteArray) : (tailOf s).size ≤ s.size := by
  show (Lib.trimRightB s.data.toList 48).toArray.size ≤ s.data.size
  rw [List.size_toArray, Lib.trimRightB, List.length_reverse]
  exact Nat.le_trans (List.dropWhile_sublist _).length_le (by simp)
/-- A size in digits. -/
def text (x : Nat) : ByteArray :=
  let t := tailOf (go1 x 6).1
  let s := decOnto (go1 x 6).2 ⟨#[]⟩
  if t = ⟨#[]⟩ then s else s ++ (⟨#[46]⟩ ++ t)
def show' (a : Int) : ByteArray := if clamp a < 0 then ⟨#[45]⟩ ++ text (clamp a).natAbs else text (clamp a).natAbs
def meas (b : Nat) (w : World) : Nat := match w.cell? ⟨b, 0, none⟩, w.cell? ⟨b, 1, none⟩ with
  | some (.string s), some (.int _ n) => n.toNat + (if s.size = 0 then 1 else 0)
  | _, _ => 0
theorem decOnto_eq (n : Nat) (s : ByteArray) : decOnto n s = if n / 10 = 0 then pre n s else decOnto (n / 10) (pre n s) := by
  rw [decOnto]
  by_cases h : n < 10
  · rw [dif_pos h, if_pos (by omega)]
  · rw [dif_neg h, if_neg (by omega)]
/-- What holds at the head of the loop that writes y. -/
structure DecAt (y : Nat) (s : ByteArray) (n : Nat) : Prop where
  bound : s.size + n ≤ y + 1
  law : (s = ⟨#[]⟩ ∧ n = y) ∨ (s ≠ ⟨#[]⟩ ∧ ((n = 0 ∧ s = decOnto y ⟨#[]⟩) ∨ (0 < n ∧ decOnto n s = decOnto y ⟨#[]⟩)))
theorem DecAt.start (y : Nat) : DecAt y ⟨#[]⟩ y := ⟨by show 0 + y ≤ y + 1; omega, Or.inl ⟨rfl, rfl⟩⟩
theorem DecAt.done {y : Nat} {s : ByteArray} (C : DecAt y s 0) (h : ¬ s = ⟨#[]⟩) : s = decOnto y ⟨#[]⟩ := by
  rcases C.law with ⟨e, _⟩ | ⟨_, ⟨_, e⟩ | ⟨e, _⟩⟩
  · exact absurd e h
  · exact e
  · omega
theorem DecAt.step {y : Nat} {s : ByteArray} {n : Nat} (C : DecAt y s n) (h : s.size = 0 ∨ 0 < n) : DecAt y (pre n s) (n / 10) := by
  have hp := pre_size n s
  have hne : pre n s ≠ ⟨#[]⟩ := by
    intro e
    rw [e] at hp
    exact absurd (show 0 = s.size + 1 from hp) (by omega)
  have key : decOnto n s = decOnto y ⟨#[]⟩ := by
    rcases C.law with ⟨rfl, rfl⟩ | ⟨h1, ⟨h2, _⟩ | ⟨_, h3⟩⟩
    · rfl
    · exfalso
      rcases h with h | h
      · exact h1 (by cases s; simpa [ByteArray.size] using h)
      · omega
    · exact h3
  rw [decOnto_eq] at key
  refine ⟨by rw [hp]; have := C.bound; omega, Or.inr ⟨hne, ?_⟩⟩
  by_cases h10 : n / 10 = 0
  · rw [if_pos h10] at key
    exact Or.inl ⟨h10, key⟩
  · rw [if_neg h10] at key
    exact Or.inr ⟨by omega, key⟩
end Num
open Num
theorem shown_text : show' 1500000 = ⟨#[49, 46, 53]⟩ := by
  decide +kernel
end Go.Proofs.YtcpobnknmegkmaaGreatDoor
