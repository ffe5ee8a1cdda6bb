/- Proved: lemmas and contracts of the functions that the law reaches, part 7 of 28: NumNext. Conditions: as each states. -/
import Derived.Outline
import Derived.BigQuiet
import Derived.BigRegion
import Derived.Deep.QuietTactic
import Derived.StillTailTactics
import Derived.Laws.Runes
import Derived.Laws.Concat
import Derived.Laws.CopyOwn
import Derived.Test.YtcpobnknmegkmaaGreatDoorDne5
namespace Go.Proofs.YtcpobnknmegkmaaGreatDoor
open Go.RowKit
set_option linter.unusedVariables false

namespace Num
/-- The lowest digit, ahead of a text. -/
def pre (n : Nat) (s : ByteArray) : ByteArray := ⟨#[UInt8.ofNat (48 + n % 10)]⟩ ++ s
theorem encode_digit (n : Nat) : Utf8.encode (48 + (n : Int) % 10) = ⟨#[UInt8.ofNat (48 + n % 10)]⟩ := by
  have e : (48 + (n : Int) % 10) = ((48 + n % 10 : Nat) : Int) := by omega
  have hv : Utf8.valid ((48 + n % 10 : Nat) : Int) = true := by unfold Utf8.valid; simp; omega
  rw [e]
  unfold Utf8.encode
  simp only [hv, if_true, Int.toNat_natCast]
  rw [if_pos (by omega)]
theorem pre_size (n : Nat) (s : ByteArray) : (pre n s).size = s.size + 1 := by
  rw [pre, ByteArray.size_append]
  show 1 + s.size = _
  omega
end Num
open Num
end Go.Proofs.YtcpobnknmegkmaaGreatDoor
