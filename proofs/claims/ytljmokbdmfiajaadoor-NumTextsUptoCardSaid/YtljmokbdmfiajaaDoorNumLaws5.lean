/- Proved: NumTexts as a contract: it returns true and writes nothing that was there. Conditions: MaxLen's cell holds an int; the text is shorter than 4 000 000 000 bytes. -/
import Derived.Test.YtljmokbdmfiajaaDoorNumRefWalk
import Derived.Test.YtljmokbdmfiajaaDoorNumRefShow
namespace Go.Proofs.YtljmokbdmfiajaaDoor
open Go.RowKit
set_option linter.unusedVariables false
open Num
set_option maxHeartbeats 2000000 in
theorem law_texts (a : Int) (s : ByteArray) (w : World) (hs : s.size ≤ 4000000000) (hm : MaxAt w) : Calls Tryd.prog 8 #[.int .i64 a, .string s] w (True1 w) := by
  have HM := hid' hm
  have HS2 := hid' (fun w hm => parse_any s w hs hm)
  have HS3 := hid' (fun w => refparse_any s w hs)
  have HSa := hid' (fun w => show_any a w)
  have HSr := hid' (fun w => refshow_any a w)
  generalize show' a = t at *
  generalize parse s.data.toList = p at *
  obtain ⟨m, is⟩ := p
  clear hs hm
  go_enter Tryd.func8, Tryd.ntmps8
  go_wp2_with fail
  refine (shown_any w).mono ?_
  rintro e w1 ⟨rfl, b1⟩
  go_wp2_with fail
  refine (HS2.out _ (HM.out.below b1)).mono ?_
  rintro e w2 ⟨rfl, b2⟩
  have b2 := b1.trans (b2.mono b1.size)
  go_wp2_with fail
  refine (HS3.out _).mono ?_
  rintro e w3 ⟨rfl, rfl⟩
  go_wp2_with fail
  refine (HSa.out _).mono ?_
  rintro e w4 ⟨rfl, b4⟩
  have b4 := b2.trans (b4.mono b2.size)
  go_wp2_with fail
  refine (HSr.out _).mono ?_
  rintro e w5 ⟨rfl, rfl⟩
  go_wp2_with fail
  go_ret
  exact ⟨rfl, b4⟩
end Go.Proofs.YtljmokbdmfiajaaDoor
