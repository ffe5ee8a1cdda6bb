/- Proved: gen.isName, gen.isCur, and the closure used of rightInstr, as contracts. -/
import Derived.Test.YtbpcgcmlpgdmbaaDoorCauFields
import Derived.Test.YtbpcgcmlpgdmbaaDoorGenRight2
import Derived.Lib.IndexAny
namespace Go.Proofs.YtbpcgcmlpgdmbaaDoor
open Go.RowKit
set_option linter.unusedVariables false
set_option linter.unusedSimpArgs false
set_option maxRecDepth 100000
theorem genIsName_any (s : ByteArray) (w : World) (hs : s.size ≤ 9223372036854775807) : Calls Tryd.prog 21 #[.string s] w (Gives (.bool (Led.isName s)) w) := by
  have HT := hid' (type_feed s w hs)
  go_enter Tryd.func21, Tryd.ntmps21
  go_wp2_with fail
  refine HT.out.mono ?_
  rintro e w1 ⟨rfl, b1⟩
  go_wp2_with fail
  go_ret
  exact ⟨rfl, b1⟩
theorem genIsCur_any (s : ByteArray) (w : World) (hs : s.size ≤ 9223372036854775807) : Calls Tryd.prog 36 #[.string s] w (Gives (.bool (Led.isCur s)) w) := by
  have HT := hid' (type_one s w hs)
  go_enter Tryd.func36, Tryd.ntmps36
  go_wp2_with fail
  refine HT.out.mono ?_
  rintro e w1 ⟨rfl, b1⟩
  go_wp2_with fail
  go_ret
  exact ⟨rfl, b1⟩
theorem hasB_index (s : ByteArray) (c : UInt8) : Gen.hasB s c.toNat = decide (0 ≤ Lib.indexByte s.data.toList c) := by
  rw [← Lib.contains_iff_indexByte]
  unfold Gen.hasB
  rw [List.contains_eq_any_beq]
  congr 1
  funext x
  by_cases h : x = c
  · subst h; simp
  · have h2 : ¬ x.toNat = c.toNat := fun e => h (UInt8.toNat_inj.1 e)
    rw [decide_eq_false h2]
    symm
    rw [beq_eq_false_iff_ne]
    exact fun e => h e.symm
theorem used_any (f : ByteArray) (c : UInt8) (b : Nat) (w : World) (hb : w.cell? ⟨b, 0, none⟩ = some (.string f)) : Calls Tryd.prog 34 #[.string ⟨#[c]⟩, .pointer (some ⟨b, 0, none⟩)] w (Ret (.bool (Gen.hasB f c.toNat)) w) := by
  have HT := hid' (Tryd.strings_Contains_one f c w)
  rw [hasB_index]
  generalize decide (0 ≤ Lib.indexByte f.data.toList c) = r at *
  go_enter Tryd.func34, Tryd.ntmps34
  go_wp2_with fail
  refine HT.out.mono ?_
  rintro e w1 ⟨rfl, rfl⟩
  go_wp2_with fail
  go_ret
  exact ⟨rfl, rfl⟩
end Go.Proofs.YtbpcgcmlpgdmbaaDoor
