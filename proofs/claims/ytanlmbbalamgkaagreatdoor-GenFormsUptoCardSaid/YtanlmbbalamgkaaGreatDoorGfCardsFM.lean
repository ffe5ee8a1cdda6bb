/- Proved: the law GenForms (usancelaw17) returns true and leaves all that was there as it was. Conditions: the arguments together are of bulk at most 1048576 (the second form), the listed tables are tied to the text (the card). -/
import Derived.Test.YtanlmbbalamgkaaGreatDoorGfm1
import Derived.Test.YtanlmbbalamgkaaGreatDoorGfm2
import Derived.Test.YtanlmbbalamgkaaGreatDoorGfm3
import Derived.Test.YtanlmbbalamgkaaGreatDoorGfm4
import Derived.Test.YtanlmbbalamgkaaGreatDoorGfm5
import Derived.Test.YtanlmbbalamgkaaGreatDoorGfm6
import Derived.Test.YtanlmbbalamgkaaGreatDoorGfm7
import Derived.Test.YtanlmbbalamgkaaGreatDoorGfm8
import Derived.Test.YtanlmbbalamgkaaGreatDoorGfm9
import Derived.Test.YtanlmbbalamgkaaGreatDoorGfm10
import Derived.Test.YtanlmbbalamgkaaGreatDoorGfm11
import Derived.Test.YtanlmbbalamgkaaGreatDoorGfm12
import Derived.Test.YtanlmbbalamgkaaGreatDoorGfm13
import Derived.Test.YtanlmbbalamgkaaGreatDoorGfm14
import Derived.Test.YtanlmbbalamgkaaGreatDoorGfm15
import Derived.Test.YtanlmbbalamgkaaGreatDoorGfm16
import Derived.Test.YtanlmbbalamgkaaGreatDoorGfm17
import Derived.Test.YtanlmbbalamgkaaGreatDoorGfm18
import Derived.Test.YtanlmbbalamgkaaGreatDoorGfm19
import Derived.Test.YtanlmbbalamgkaaGreatDoorGfm20
import Derived.Test.YtanlmbbalamgkaaGreatDoorGfm21
import Derived.Test.YtanlmbbalamgkaaGreatDoorGfm22
import Derived.Test.YtanlmbbalamgkaaGreatDoorGfm23
import Derived.Test.YtanlmbbalamgkaaGreatDoorGfm24
import Derived.Test.YtanlmbbalamgkaaGreatDoorGfm25
import Derived.Test.YtanlmbbalamgkaaGreatDoorGfm26
import Derived.Test.YtanlmbbalamgkaaGreatDoorGfm27
import Derived.Test.YtanlmbbalamgkaaGreatDoorGfm28
import Derived.Test.YtanlmbbalamgkaaGreatDoorGfm29
import Derived.Test.YtanlmbbalamgkaaGreatDoorGfm30
import Derived.Test.YtanlmbbalamgkaaGreatDoorGfm31
namespace Go.Proofs.YtanlmbbalamgkaaGreatDoor
set_option linter.unusedVariables false
set_option linter.unusedSimpArgs false
section
open Go.ChangeShapes Go.WideShapes Go.ChangeAt Go.RowKit
open Go.ChangeMaps (open_string shut_string)
set_option maxRecDepth 100000
namespace fnGenForms
theorem laid_met (os : Os) : laidMet Tryz.prog Rows.genFormsUptoRow.laid ((laidWorld os).forCall (fun _ _ => 0) ⟨#[], #[.agg #[.int .i64 0, .int .i64 0, .string ⟨#[]⟩, .slice none 0 0], .int .i64 0], []⟩).memory :=
 laidMet_of_run' 8 (by kernel_rfl) (by kernel_rfl)
theorem reads (os : Os) {H : Type} (enc : TypeId × Value → H) : ∃ places, DataW.whole enc Tryz.prog ((laidWorld os).forCall (fun _ _ => 0) ⟨#[], #[.agg #[.int .i64 0, .int .i64 0, .string ⟨#[]⟩, .slice none 0 0], .int .i64 0], []⟩).memory Tryz.f3.params.toList Rows.genFormsSpec.vars false (#[.agg #[.int .i64 0, .int .i64 0, .string ⟨#[]⟩, .slice none 0 0], .int .i64 0] : Array Value).toList 8 = some ([.agg [.lit (.int .i64 0), .lit (.int .i64 0), .lit (.string []), .nil], .lit (.int .i64 0)], [], places) :=
 ⟨[], by kernel_rfl⟩
theorem lifted (os : Os) (started : os.Started) (H : Type) (enc : TypeId × Value → H) (F : Stop.Interp) :
   ReturnsInHanded {} Tryz.checked os 3 .any ((Rows.OpenSpec.upto Rows.genFormsSpec).preRow enc Tryz.prog Tryz.f3 Rows.genFormsUptoRow.domain false Rows.genFormsUptoRow.laid) (((Rows.OpenSpec.upto Rows.genFormsSpec).at F).post enc Tryz.prog Tryz.f3 false true false false) := by
 obtain ⟨places, hx⟩ := reads os enc
 refine returnsInHanded_of_row (C := Tryz.checked) (s := Rows.OpenSpec.upto Rows.genFormsSpec) own started (by kernel_rfl) Tryz.func3
   (witness_row_at (enc := enc) (C := Tryz.checked) false (laidWorld os) #[.agg #[.int .i64 0, .int .i64 0, .string ⟨#[]⟩, .slice none 0 0], .int .i64 0] rfl (by kernel_rfl) (by kernel_rfl) (by kernel_rfl)
     (OpenSpec.preRow_of_cond 8 hx (by kernel_rfl) (fun k hk => by cases hk; kernel_rfl) (by kernel_rfl) (laid_met os))) ?_
 intro W base args ds gs before hval0 hW _ hcond _ hL _ _
 have hval : ∀ (j : Nat) t v, Tryz.f3.params[j]? = some t → args[j]? = some v → Value.okWide Tryz.prog W .any base t v := hval0
 have hW' := hW
 obtain ⟨p, q, hA0, hV, rfl, hfz, hnd⟩ := hW
 have hA : DataW.TrodAll enc Tryz.prog W 0 (fun _ => true) true Tryz.f3.params.toList args.toList ds p := hA0
 rw [Tryz.params3] at hA hval
 obtain ⟨v0, vs0, d0, ds0, p0, q0, hargs, rfl, rfl, h0, r0⟩ := trodAll_cons hA
 obtain ⟨v1, vs1, d1, ds1, p1, q1, rfl, rfl, rfl, h1, r1⟩ := trodAll_cons r0
 obtain ⟨rfl, rfl, rfl⟩ := trodAll_nil r1
 obtain rfl : args = #[v0, v1] := by cases args; simp_all
 obtain ⟨rfl, rfl⟩ := trodVars_none hV
 have lt0 : ∀ x ∈ p0, x.block < W.heap.size := by obtain ⟨m, hm⟩ := h0; exact DataW.trod_lt m _ _ _ hm
 have lt1 : ∀ x ∈ p1, x.block < W.heap.size := by obtain ⟨m, hm⟩ := h1; exact DataW.trod_lt m _ _ _ hm
 have hcnd := of_decide_eq_true (hcond _ rfl)
 simp only [Rows.uptoBulkAll, List.append_nil] at hcnd
 obtain ⟨c0, hc0, hz0⟩ := open_core (hval 0 24 v0 rfl rfl) h0 (by omega)
 obtain ⟨n1, rfl, rfl, rfl, w1⟩ := open_int Tryz.underlying3 (hval 1 3 v1 rfl rfl) h1
 clear hA0 hval0
 refine (Gf.law_forms c0 v0 n1 W hc0 hz0).mono fun e W' ⟨he, bel⟩ => ?_
 subst he
 exact ⟨_, rfl, _, _, _, [], _, [], hW', trodAll_mk1 (shut_bool Tryz.underlying4 _), (trodAll_cons_mk (Below.trod laidOutX (by kernel_rfl) (of_decide_eq_true (by kernel_rfl)) h0 bel lt0) (trodAll_cons_mk (Below.trod laidOutX (by kernel_rfl) (of_decide_eq_true (by kernel_rfl)) h1 bel lt1) trodAll_mk0)), rfl, bel.frame _, fun h => by cases h⟩
theorem saidUpto : Rows.GenFormsUptoSaid :=
 OpenClaim.holds_of_cond 3 Tryz.f3 rfl rfl rfl rfl rfl rfl rfl ⟨rfl, rfl, rfl, rfl, rfl⟩ rfl rfl rfl rfl rfl (by kernel_rfl) Tryz.func3 (by kernel_rfl)
   (of_decide_eq_true (by kernel_rfl)) (by unfold Func.isWrapper; first | (rw [if_pos (by decide +kernel)]; kernel_rfl) | (rw [if_neg (by decide +kernel)]; exact ⟨rfl, rfl⟩))
   (fun os started H enc _ F => by rw [OpenClaim.pre_eq_preRow]; exact lifted os started H enc F)
theorem plain (f : FuncId) (fn : Func) (hf : Tryz.pinned.checked.prog.funcNamed "usance/usancelaw17.GenForms" = some f) (hfn : Tryz.pinned.checked.prog.funcs[f]? = some fn) :
   true = Tryz.pinned.checked.prog.looks [] ∧ ∀ (j : Nat) t, fn.params[j]? = some t → Tryz.pinned.checked.prog.wantsStandIn t = false := by
 obtain rfl : f = 3 := Option.some.inj ((show Tryz.prog.funcNamed "usance/usancelaw17.GenForms" = some 3 by kernel_rfl).symm.trans hf) |>.symm
 obtain rfl : fn = Tryz.f3 := (Option.some.inj (Tryz.func3.symm.trans hfn)).symm
 refine ⟨by kernel_rfl, fun j t ht => ?_⟩
 rw [Tryz.params3] at ht
 obtain rfl | rfl : t = 24 ∨ t = 3 := by simpa using Array.mem_of_getElem? ht
 · exact (show Tryz.prog.wantsStandIn 24 = false by kernel_rfl)
 · exact (show Tryz.prog.wantsStandIn 3 = false by kernel_rfl)
theorem cardUpto : Rows.GenFormsUptoCardSaid :=
 Claim7.holds_tied_plain_at .later [] _ _ _ _ saidUpto (fun _ h => by cases h) (by kernel_rfl) (fun _ h => by cases h) genFormsUpto_row_tie rfl ⟨rfl, rfl⟩ (by kernel_rfl) rfl plain (by kernel_rfl)
end fnGenForms
end
end Go.Proofs.YtanlmbbalamgkaaGreatDoor
