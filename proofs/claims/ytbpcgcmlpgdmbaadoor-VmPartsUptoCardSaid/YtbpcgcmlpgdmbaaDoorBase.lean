/- Proved: small helpers of the walks: a statement behind a name, what a call leaves, bytes as lists. -/
import Derived.Test.YtbpcgcmlpgdmbaaDoorChecked
import Derived.WalkKit
import Derived.ProofKit
import Derived.OwnWalk
import Derived.BigQuiet
import Derived.Deep.QuietTactic
namespace Go.Proofs.YtbpcgcmlpgdmbaaDoor
open Go.RowKit
set_option linter.unusedVariables false
set_option linter.unusedSimpArgs false

def Hid (p : Prop) : Prop := p
theorem Hid.out {p : Prop} (h : Hid p) : p := h
theorem hid' {p : Prop} (h : p) : Hid p := h
/-- Halts a walk: the goal is put behind a name; 'refine hid' ?_' goes on. -/
theorem halt' {p : Prop} (h : Hid p) : p := h
def Ret (v : Value) (w : World) (e : Ending) (w' : World) : Prop := e = .returned v ∧ w' = w
def Drew (v : Value) (w : World) (e : Ending) (w' : World) : Prop := e = .returned v ∧ ∃ n, w' = w.drewN n
/-- It returns v; what was there is as it was. -/
def Gives (v : Value) (w : World) (e : Ending) (w' : World) : Prop := e = .returned v ∧ Below w.heap.size w w'
def True1 (w : World) (e : Ending) (w' : World) : Prop := e = .returned (.bool true) ∧ Below w.heap.size w w'
theorem Below.drewn {B : Nat} {w w' : World} (h : Below B w w') (n : Nat) : Below B w (w'.drewN n) := by
  induction n with
  | zero => exact h
  | succ n ih => exact ih.drew
theorem drewN_heap (w : World) (n : Nat) : (w.drewN n).heap = w.heap := by
  induction n with
  | zero => rfl
  | succ n ih => exact ih
theorem below_drewN {w w' : World} {n : Nat} (h : Below (w.drewN n).heap.size (w.drewN n) w') : Below w.heap.size w w' := by
  rw [drewN_heap] at h
  exact (Below.drewn (Below.refl _ w) n).trans h
theorem new_cell {W : World} {xs : Array Value} {t : TypeId} {b o : Nat} {v : Value} (hb : b = W.heap.size) (h : xs[o]? = some v) : (W.alloc (.cells xs t)).cell? ⟨b, o, none⟩ = some v := by
  subst hb; rw [World.cell?_alloc_new]; exact h
theorem drew_cell {W : World} {a : Addr} {v : Value} (h : W.cell? a = some v) : W.drew.cell? a = some v := h
/-- One call behind another. -/
theorem Below.more {w w1 w2 : World} (h : Below w.heap.size w w1) (h' : Below w1.heap.size w1 w2) : Below w.heap.size w w2 := h.trans (h'.mono h.size)
theorem nonempty_list {s : ByteArray} (h : ¬ s = ⟨#[]⟩) : s.toList.isEmpty = false := by
  rw [ByteArray.toList_eq, List.isEmpty_eq_false_iff]
  intro e
  apply h
  cases s
  simpa using e
theorem cut_ba (s : ByteArray) : (⟨s.data.toList.toArray⟩ : ByteArray) = s := by cases s; simp
theorem head_ba (W : ByteArray) (h : 0 < W.size) : W.data.toList.head? = some W[0] := by
  rw [List.head?_eq_getElem?, Array.getElem?_toList]
  exact Array.getElem?_eq_getElem h
theorem len_ba (s : ByteArray) : s.data.toList.length = s.size := Array.length_toList
theorem mk_list (l : List UInt8) : (⟨l.toArray⟩ : ByteArray).data.toList = l := by simp
theorem mk_size (l : List UInt8) : (⟨l.toArray⟩ : ByteArray).size = l.length := by show l.toArray.size = _; rw [List.size_toArray]
theorem ba_ext {a b : ByteArray} (h : a.data.toList = b.data.toList) : a = b := by
  cases a; cases b; simp at h; subst h; rfl
theorem list_at (T : ByteArray) (j : Nat) (h : j < T.size) : T.data.toList[j]? = some T[j] := by
  rw [Array.getElem?_toList]
  exact Array.getElem?_eq_getElem h
theorem nil_of_size {s : ByteArray} (h : s.size = 0) : s = ⟨#[]⟩ := by
  cases s with
  | mk a => congr 1; exact Array.eq_empty_of_size_eq_zero h
theorem dropWhile_nil {α : Type} (p : α → Bool) (l : List α) : l.dropWhile p = [] ↔ l.all p = true := by
  induction l with
  | nil => simp
  | cons a l ih =>
    rw [List.dropWhile_cons]
    by_cases h : p a = true
    · rw [if_pos h, ih]; simp [h]
    · rw [if_neg h]; simp [h]
end Go.Proofs.YtbpcgcmlpgdmbaaDoor
