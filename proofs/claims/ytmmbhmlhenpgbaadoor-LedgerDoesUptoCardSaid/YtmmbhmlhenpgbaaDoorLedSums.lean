/- Proved: the sums of a posting by currency, as a map that grows leg by leg (plain words). No program in sight. -/
import Derived.Test.YtmmbhmlhenpgbaaDoorLedgerPlain
import Derived.Maps.Views
import Derived.Maps.Keyed
namespace Go.Proofs.YtmmbhmlhenpgbaaDoor
set_option linter.unusedVariables false
set_option linter.unusedSimpArgs false
namespace Led
open Go.Maps
def keyS (c : ByteArray) : Lit := .string c.data.toList
def litI (n : Int) : DataW Unit := .lit (.int .i64 n)
theorem keyS_inj {a b : ByteArray} (h : keyS a = keyS b) : a = b := by
  cases a; cases b
  have := Lit.string.inj h
  simp at this; subst this; rfl
theorem keyS_is (c : ByteArray) : WideAt.IsKeyLit (keyS c) := trivial
theorem sumOf_snoc (c : ByteArray) (l : List Leg) (x : Leg) : sumOf c (l ++ [x]) = sumOf c l + (if x.cur = c then x.amount else 0) := by
  induction l with
  | nil => simp [sumOf]
  | cons y t ih => rw [List.cons_append, sumOf, sumOf, ih]; omega
/-- The map of sums behind so many legs. -/
def sumK (l : List Leg) : Nat → DataW Unit
  | 0 => .map []
  | k + 1 => match l[k]? with
    | some x => (sumK l k).put (keyS x.cur) (litI (sumOf x.cur (l.take (k + 1))))
    | none => sumK l k
theorem sumK_map (l : List Leg) (k : Nat) : IsMap (sumK l k) := by
  induction k with
  | zero => exact isMap_empty
  | succ k ih =>
    rw [sumK]
    split
    · exact ih.put _ _
    · exact ih
theorem take_snoc {α : Type} (l : List α) (k : Nat) (x : α) (h : l[k]? = some x) : l.take (k + 1) = l.take k ++ [x] := by
  obtain ⟨hk, hx⟩ := List.getElem?_eq_some_iff.1 h
  rw [List.take_succ_eq_append_getElem hk, hx]
theorem sumK_at (l : List Leg) (k : Nat) (hk : k ≤ l.length) (c : ByteArray) : (sumK l k).atKey (keyS c) (litI 0) = litI (sumOf c (l.take k)) := by
  induction k with
  | zero => rfl
  | succ k ih =>
    have hx : l[k]? = some (l[k]'(by omega)) := List.getElem?_eq_getElem (by omega)
    rw [sumK, hx]
    simp only []
    by_cases h : (l[k]'(by omega)).cur = c
    · rw [h, atKey_put_same (sumK_map l k) (keyS_is c)]
    · rw [atKey_put_other (fun e => h (keyS_inj e).symm), ih (by omega), take_snoc l k _ hx, sumOf_snoc, if_neg h]
      simp
theorem sumK_has (l : List Leg) (k : Nat) (hk : k ≤ l.length) (c : ByteArray) : has (sumK l k) (keyS c) = (l.take k).any (fun x => decide (x.cur = c)) := by
  induction k with
  | zero => rfl
  | succ k ih =>
    have hx : l[k]? = some (l[k]'(by omega)) := List.getElem?_eq_getElem (by omega)
    rw [sumK, hx]
    simp only []
    rw [take_snoc l k _ hx, List.any_append]
    by_cases h : (l[k]'(by omega)).cur = c
    · rw [h, has_put_same (sumK_map l k) (keyS_is c)]; simp [h]
    · rw [has_put_other (fun e => h (keyS_inj e).symm), ih (by omega)]; simp [h]
/-- A map's keys are the currencies. -/
theorem even_of (l : List Leg) (h : ∀ c, has (sumK l l.length) (keyS c) = true → sumOf c l = 0) : even l = true := by
  unfold even
  rw [List.all_eq_true]
  intro x hx
  rw [decide_eq_true_eq]
  apply h
  rw [sumK_has l _ (Nat.le_refl _), List.take_length, List.any_eq_true]
  exact ⟨x, hx, by simp⟩
theorem not_even_of (l : List Leg) (c : ByteArray) (h : has (sumK l l.length) (keyS c) = true) (hs : sumOf c l ≠ 0) : even l = false := by
  rw [sumK_has l _ (Nat.le_refl _), List.take_length, List.any_eq_true] at h
  obtain ⟨x, hx, hc⟩ := h
  unfold even
  rw [List.all_eq_false]
  refine ⟨x, hx, ?_⟩
  simp only [decide_eq_true_eq] at hc ⊢
  rw [hc]; exact hs
theorem legOk_amount {x : Leg} (h : legOk x = true) : -1000000000000000 ≤ x.amount ∧ x.amount ≤ 1000000000000000 := by
  unfold legOk at h
  simp only [Bool.and_eq_true, decide_eq_true_eq] at h
  exact h.2.2.2
theorem sumOf_le (c : ByteArray) (l : List Leg) (h : l.all legOk = true) : -(1000000000000000 * (l.length : Int)) ≤ sumOf c l ∧ sumOf c l ≤ 1000000000000000 * (l.length : Int) := by
  induction l with
  | nil => simp [sumOf]
  | cons x t ih =>
    simp only [List.all_cons, Bool.and_eq_true] at h
    have h1 := legOk_amount h.1
    have h2 := ih h.2
    rw [sumOf, List.length_cons]
    split <;> omega
theorem rising_snoc (l : List Leg) (x y : Leg) : rising (l ++ [x] ++ [y]) = (rising (l ++ [x]) && rises x y) := by
  induction l with
  | nil => simp [rising]
  | cons a t ih =>
    cases t with
    | nil => simp [rising, Bool.and_assoc]
    | cons b u =>
      simp only [List.cons_append] at ih ⊢
      rw [rising, ih, rising, Bool.and_assoc]
/-- A prefix that does not rise, or holds what is none, spoils the whole. -/
theorem rising_take (l : List Leg) (k : Nat) (h : rising l = true) : rising (l.take k) = true := by
  induction l generalizing k with
  | nil => simp [rising]
  | cons a t ih =>
    cases k with
    | zero => rfl
    | succ k =>
      cases t with
      | nil => simp [rising]
      | cons b u =>
        rw [rising, Bool.and_eq_true] at h
        cases k with
        | zero => rfl
        | succ k =>
          have := ih (k + 1) h.2
          rw [List.take_succ_cons] at this
          rw [List.take_succ_cons, List.take_succ_cons, rising, h.1, this]; rfl
end Led
end Go.Proofs.YtmmbhmlhenpgbaaDoor
