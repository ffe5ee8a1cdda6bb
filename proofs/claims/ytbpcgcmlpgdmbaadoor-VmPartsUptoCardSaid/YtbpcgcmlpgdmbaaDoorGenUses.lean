/- Proved: which fields an operation uses, as the reference tells it: uses, has, register, as contracts. No conditions. -/
import Derived.Test.YtbpcgcmlpgdmbaaDoorBase
import Derived.Test.YtbpcgcmlpgdmbaaDoorGenPlain
import Derived.IntWalk
namespace Go.Proofs.YtbpcgcmlpgdmbaaDoor
open Go.RowKit
set_option linter.unusedVariables false
set_option linter.unusedSimpArgs false
set_option maxRecDepth 100000
namespace Gen
/-- The fields that an operation uses, as a text. -/
def usesT (op : Int) : ByteArray :=
  if op = 1 then ⟨#[65, 78]⟩ else
  if op = 2 then ⟨#[65, 83, 78, 84]⟩ else
  if op = 3 then ⟨#[65, 78]⟩ else
  if op = 4 then ⟨#[65, 66]⟩ else
  if op = 5 then ⟨#[65, 66, 67]⟩ else
  if op = 6 then ⟨#[65, 66, 67]⟩ else
  if op = 7 then ⟨#[65, 66, 67]⟩ else
  if op = 8 then ⟨#[65, 66, 67]⟩ else
  if op = 9 then ⟨#[65, 66, 67]⟩ else
  if op = 10 then ⟨#[65, 66, 67]⟩ else
  if op = 11 then ⟨#[65, 66, 67]⟩ else
  if op = 12 then ⟨#[65, 66]⟩ else
  if op = 13 then ⟨#[65, 66, 67]⟩ else
  if op = 14 then ⟨#[65, 66, 67]⟩ else
  if op = 15 then ⟨#[65, 66, 67]⟩ else
  if op = 16 then ⟨#[65, 66, 67]⟩ else
  if op = 17 then ⟨#[65, 66, 67]⟩ else
  if op = 18 then ⟨#[65, 66]⟩ else
  if op = 19 then ⟨#[66, 84]⟩ else
  if op = 20 then ⟨#[84]⟩ else
  if op = 21 then ⟨#[78, 84]⟩ else
  if op = 22 then ⟨#[78, 84]⟩ else
  if op = 23 then ⟨#[66]⟩ else
  if op = 24 then ⟨#[]⟩ else
  if op = 25 then ⟨#[65]⟩ else
  if op = 26 then ⟨#[66]⟩ else
  if op = 27 then ⟨#[83]⟩ else
  if op = 28 then ⟨#[78]⟩ else
  if op = 29 then ⟨#[78]⟩ else
  if op = 30 then ⟨#[]⟩ else
  ⟨#[]⟩
def isOp (op : Int) : Bool := decide (1 ≤ op) && decide (op ≤ 30)
def hasB (s : ByteArray) (c : Nat) : Bool := s.data.toList.any fun x => decide (x.toNat = c)
theorem op_cases (op : Int) : op = 1 ∨ op = 2 ∨ op = 3 ∨ op = 4 ∨ op = 5 ∨ op = 6 ∨ op = 7 ∨ op = 8 ∨ op = 9 ∨ op = 10 ∨ op = 11 ∨ op = 12 ∨ op = 13 ∨ op = 14 ∨ op = 15 ∨ op = 16 ∨ op = 17 ∨ op = 18 ∨ op = 19 ∨ op = 20 ∨ op = 21 ∨ op = 22 ∨ op = 23 ∨ op = 24 ∨ op = 25 ∨ op = 26 ∨ op = 27 ∨ op = 28 ∨ op = 29 ∨ op = 30 ∨ (op < 1 ∨ 30 < op) := by omega
theorem usesT_no {op : Int} (h : op < 1 ∨ 30 < op) : usesT op = ⟨#[]⟩ := by
  unfold usesT
  rw [if_neg (by omega)]
  rw [if_neg (by omega)]
  rw [if_neg (by omega)]
  rw [if_neg (by omega)]
  rw [if_neg (by omega)]
  rw [if_neg (by omega)]
  rw [if_neg (by omega)]
  rw [if_neg (by omega)]
  rw [if_neg (by omega)]
  rw [if_neg (by omega)]
  rw [if_neg (by omega)]
  rw [if_neg (by omega)]
  rw [if_neg (by omega)]
  rw [if_neg (by omega)]
  rw [if_neg (by omega)]
  rw [if_neg (by omega)]
  rw [if_neg (by omega)]
  rw [if_neg (by omega)]
  rw [if_neg (by omega)]
  rw [if_neg (by omega)]
  rw [if_neg (by omega)]
  rw [if_neg (by omega)]
  rw [if_neg (by omega)]
  rw [if_neg (by omega)]
  rw [if_neg (by omega)]
  rw [if_neg (by omega)]
  rw [if_neg (by omega)]
  rw [if_neg (by omega)]
  rw [if_neg (by omega)]
  rw [if_neg (by omega)]
theorem uses_has (op : Int) : hasB (usesT op) 65 = useA op ∧ hasB (usesT op) 66 = useB op ∧ hasB (usesT op) 67 = useC op ∧ hasB (usesT op) 84 = useT op := by
  rcases op_cases op with rfl | rfl | rfl | rfl | rfl | rfl | rfl | rfl | rfl | rfl | rfl | rfl | rfl | rfl | rfl | rfl | rfl | rfl | rfl | rfl | rfl | rfl | rfl | rfl | rfl | rfl | rfl | rfl | rfl | rfl | h
  all_goals first
    | decide
    | (rw [usesT_no h]
       have zA : useA op = false := by unfold useA; simp only [Bool.or_eq_false_iff, Bool.and_eq_false_iff, decide_eq_false_iff_not]; omega
       have zB : useB op = false := by unfold useB; simp only [Bool.or_eq_false_iff, Bool.and_eq_false_iff, decide_eq_false_iff_not]; omega
       have zC : useC op = false := by unfold useC; simp only [Bool.or_eq_false_iff, Bool.and_eq_false_iff, decide_eq_false_iff_not]; omega
       have zT : useT op = false := by unfold useT; simp only [Bool.or_eq_false_iff, Bool.and_eq_false_iff, decide_eq_false_iff_not]; omega
       rw [zA, zB, zC, zT]
       exact ⟨rfl, rfl, rfl, rfl⟩)
end Gen
open Gen
end Go.Proofs.YtbpcgcmlpgdmbaaDoor
