/- Proved: NumSums as a contract: it returns true and writes nothing that was there. No conditions. -/
import Derived.Test.YtljmokbdmfiajaaDoorNumShow
namespace Go.Proofs.YtljmokbdmfiajaaDoor
open Go.RowKit
set_option linter.unusedVariables false
open Num

set_option maxHeartbeats 1000000 in
theorem law_sums (a b : Int) (w : World) : Calls Tryd.prog 3 #[.int .i64 a, .int .i64 b] w (True1 w) := by
  go_enter Tryd.func3, Tryd.ntmps3
  go_wp2_with fail
  refine (shown_any w).mono ?_
  rintro e w1 ⟨rfl, b1⟩
  go_wp2_with fail
  refine (clamp_any a w1).mono ?_
  rintro e w2 ⟨rfl, rfl⟩
  go_wp2_with fail
  refine (refclamp_any a w2).mono ?_
  rintro e w3 ⟨rfl, rfl⟩
  go_wp2_with fail
  refine (add_any a b w3).mono ?_
  rintro e w4 ⟨rfl, rfl⟩
  go_wp2_with fail
  refine (refadd_any a b w4).mono ?_
  rintro e w5 ⟨rfl, rfl⟩
  go_wp2_with fail
  refine (sub_any a b w5).mono ?_
  rintro e w6 ⟨rfl, rfl⟩
  go_wp2_with fail
  refine (refsub_any a b w6).mono ?_
  rintro e w7 ⟨rfl, rfl⟩
  go_wp2_with fail
  refine (neg_any a w7).mono ?_
  rintro e w8 ⟨rfl, rfl⟩
  go_wp2_with fail
  refine (refneg_any a w8).mono ?_
  rintro e w9 ⟨rfl, rfl⟩
  go_wp2_with fail
  refine (whole_any a w9).mono ?_
  rintro e w10 ⟨rfl, rfl⟩
  go_wp2_with fail
  refine (refwhole_any a w10).mono ?_
  rintro e w11 ⟨rfl, rfl⟩
  go_wp2_with fail
  go_ret
  exact ⟨rfl, b1⟩
end Go.Proofs.YtljmokbdmfiajaaDoor
