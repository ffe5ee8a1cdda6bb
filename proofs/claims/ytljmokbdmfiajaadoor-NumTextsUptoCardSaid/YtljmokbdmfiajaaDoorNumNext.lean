/- Proved: (*digits).next as a contract: it lays the lowest digit ahead of the text and divides the rest by ten. Conditions: the block holds a text of at most 10^17 bytes and a rest of at most 10^18. -/
import Derived.Test.YtljmokbdmfiajaaDoorNumPlain
import Derived.Outline
import Derived.BigQuiet
import Derived.BigRegion
import Derived.Deep.QuietTactic
import Derived.StillTailTactics
import Derived.Laws.Runes
import Derived.Laws.Concat
import Derived.Laws.CopyOwn
namespace Go.Proofs.YtljmokbdmfiajaaDoor
open Go.RowKit
set_option linter.unusedVariables false

namespace Num
/-- The lowest digit, ahead of a text. -/
def pre (n : Nat) (s : ByteArray) : ByteArray := ⟨#[UInt8.ofNat (48 + n % 10)]⟩ ++ s
theorem encode_digit (n : Nat) : Utf8.encode (48 + (n : Int) % 10) = ⟨#[UInt8.ofNat (48 + n % 10)]⟩ := by
  have e : (48 + (n : Int) % 10) = ((48 + n % 10 : Nat) : Int) := by omega
  have hv : Utf8.valid ((48 + n % 10 : Nat) : Int) = true := by unfold Utf8.valid; simp; omega
  rw [e]
  unfold Utf8.encode
  simp only [hv, if_true, Int.toNat_natCast]
  rw [if_pos (by omega)]
theorem pre_size (n : Nat) (s : ByteArray) : (pre n s).size = s.size + 1 := by
  rw [pre, ByteArray.size_append]
  show 1 + s.size = _
  omega
end Num
open Num
/-- The block b holds the text s and the rest n. -/
def DigitsAt (b : Nat) (w : World) (s : ByteArray) (n : Nat) : Prop := w.heap[b]? = some (.cells #[.string s, .int .u64 (n : Int)] 46 (0, 0))
def NextPost (b : Nat) (w : World) (s : ByteArray) (n : Nat) (e : Ending) (w' : World) : Prop := e = .returned (.tuple #[]) ∧ DigitsAt b w' (pre n s) (n / 10) ∧ w.grownBy w' (some b)

set_option maxHeartbeats 1000000 in
theorem next_any (w : World) (b : Nat) (s : ByteArray) (n : Nat) (hn2 : n ≤ 1000000000000000000) (hs : s.size ≤ 100000000000000000) (hb : DigitsAt b w s n) :
    Calls Tryd.prog 40 #[.pointer (some ⟨b, 0, none⟩)] w (NextPost b w s n) := by
  have h0 : w.cell? ⟨b, 0, none⟩ = some (.string s) := cell_of_row w b 0 _ _ _ hb
  have h1 : w.cell? ⟨b, 1, none⟩ = some (.int .u64 (n : Int)) := cell_of_row w b 1 _ _ _ hb
  have f0 : w.frozen? ⟨b, 0, none⟩ = false := frozen_of_row w b 0 _ _ hb
  have f1 : w.frozen? ⟨b, 1, none⟩ = false := frozen_of_row w b 1 _ _ hb
  have e4 : (n : Int).tmod 10 = (n : Int) % 10 := Int.tmod_eq_emod_of_nonneg (by omega)
  have e2 : IntKind.i32.wrap ((n : Int) % 10) = (n : Int) % 10 := by rw [IntKind.wrap_i32]; omega
  have e3 : IntKind.i32.wrap (48 + (n : Int) % 10) = 48 + (n : Int) % 10 := by rw [IntKind.wrap_i32]; omega
  have e5 : 0 ≤ 48 + (n : Int) % 10 := by omega
  have e6 : 48 + (n : Int) % 10 < 128 := by omega
  have hpre : (⟨#[UInt8.ofNat (48 + n % 10)]⟩ : ByteArray) ++ s = pre n s := rfl
  have hsum : ¬ (9223372036854775807 < (⟨#[UInt8.ofNat (48 + n % 10)]⟩ : ByteArray).size + s.size) := by show ¬ (9223372036854775807 < 1 + s.size); omega
  have hd := encode_digit n
  generalize (⟨#[UInt8.ofNat (48 + n % 10)]⟩ : ByteArray) = d at *
  go_enter Tryd.func40, Tryd.ntmps40
  go_wp2_with fail
  go_still_tail 14, (by kernel_rfl)
  change wpList _ _ _ _ _ w.drew
  go_wp2_with fail
  refine bodyPost_end (results_none rfl _ _ _) rfl ⟨rfl, ?_, rfl, rfl, rfl, by simp, fun k _ hk => ?_⟩
  · exact heap_setCell_same _ b 1 _ _ _ (heap_setCell_same _ b 0 _ _ _ hb)
  · have hk' : k ≠ b := fun e => hk (by rw [e])
    exact (heap_setCell_other _ ⟨b, 1, none⟩ k _ hk').trans (heap_setCell_other _ ⟨b, 0, none⟩ k _ hk')
end Go.Proofs.YtljmokbdmfiajaaDoor
