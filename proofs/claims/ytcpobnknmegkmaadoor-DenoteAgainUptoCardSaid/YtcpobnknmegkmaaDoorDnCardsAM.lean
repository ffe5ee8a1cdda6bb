/- Proved: the law DenoteAgain (usancelaw15) returns true and leaves all that was there as it was. Conditions: the arguments together are of bulk at most 1048576 (the second form), the listed tables are tied to the text (the card). -/
import Derived.Test.YtcpobnknmegkmaaDoorDnl1
import Derived.Test.YtcpobnknmegkmaaDoorDnl3
import Derived.Test.YtcpobnknmegkmaaDoorDnm1
import Derived.Test.YtcpobnknmegkmaaDoorDnm10
import Derived.Test.YtcpobnknmegkmaaDoorDnm11
import Derived.Test.YtcpobnknmegkmaaDoorDnm12
import Derived.Test.YtcpobnknmegkmaaDoorDnm13
import Derived.Test.YtcpobnknmegkmaaDoorDnm14
import Derived.Test.YtcpobnknmegkmaaDoorDnm15
import Derived.Test.YtcpobnknmegkmaaDoorDnm16
import Derived.Test.YtcpobnknmegkmaaDoorDnm17
import Derived.Test.YtcpobnknmegkmaaDoorDnm18
import Derived.Test.YtcpobnknmegkmaaDoorDnm19
import Derived.Test.YtcpobnknmegkmaaDoorDnm2
import Derived.Test.YtcpobnknmegkmaaDoorDnm20
import Derived.Test.YtcpobnknmegkmaaDoorDnm21
import Derived.Test.YtcpobnknmegkmaaDoorDnm22
import Derived.Test.YtcpobnknmegkmaaDoorDnm23
import Derived.Test.YtcpobnknmegkmaaDoorDnm24
import Derived.Test.YtcpobnknmegkmaaDoorDnm25
import Derived.Test.YtcpobnknmegkmaaDoorDnm26
import Derived.Test.YtcpobnknmegkmaaDoorDnm3
import Derived.Test.YtcpobnknmegkmaaDoorDnm4
import Derived.Test.YtcpobnknmegkmaaDoorDnm5
import Derived.Test.YtcpobnknmegkmaaDoorDnm6
import Derived.Test.YtcpobnknmegkmaaDoorDnm7
import Derived.Test.YtcpobnknmegkmaaDoorDnm8
import Derived.Test.YtcpobnknmegkmaaDoorDnm9
import Derived.Test.YtcpobnknmegkmaaDoorDng1
import Derived.Test.YtcpobnknmegkmaaDoorDng2
import Derived.Test.YtcpobnknmegkmaaDoorDng3
import Derived.Test.YtcpobnknmegkmaaDoorDng4
namespace Go.Proofs.YtcpobnknmegkmaaDoor
open Go.ChangeShapes Go.WideShapes Go.ChangeAt Go.RowKit
open Go.ChangeMaps (open_string shut_string)
set_option linter.unusedVariables false
set_option maxRecDepth 100000
namespace fnDenoteAgain
theorem laid_met (os : Os) : laidMet Tryd.prog Rows.denoteAgainUptoRow.laid ((laidWorld os).forCall (fun _ _ => 0) ⟨#[], #[.agg #[.int .i64 0, .int .i64 0, .string ⟨#[]⟩, .slice none 0 0], .int .i64 0, .slice none 0 0, .int .i64 0, .slice none 0 0, .agg #[.string ⟨#[]⟩, .int .i64 0]], []⟩).memory :=
  laidMet_of_run' 8 (by kernel_rfl) (by kernel_rfl)
theorem reads (os : Os) {H : Type} (enc : TypeId × Value → H) : ∃ places, DataW.whole enc Tryd.prog ((laidWorld os).forCall (fun _ _ => 0) ⟨#[], #[.agg #[.int .i64 0, .int .i64 0, .string ⟨#[]⟩, .slice none 0 0], .int .i64 0, .slice none 0 0, .int .i64 0, .slice none 0 0, .agg #[.string ⟨#[]⟩, .int .i64 0]], []⟩).memory Tryd.f3.params.toList Rows.denoteAgainSpec.vars false (#[.agg #[.int .i64 0, .int .i64 0, .string ⟨#[]⟩, .slice none 0 0], .int .i64 0, .slice none 0 0, .int .i64 0, .slice none 0 0, .agg #[.string ⟨#[]⟩, .int .i64 0]] : Array Value).toList 8 = some ([.agg [.lit (.int .i64 0), .lit (.int .i64 0), .lit (.string []), .nil], .lit (.int .i64 0), .nil, .lit (.int .i64 0), .nil, .agg [.lit (.string []), .lit (.int .i64 0)]], [], places) :=
  ⟨[], by kernel_rfl⟩

theorem lifted (os : Os) (started : os.Started) (H : Type) (enc : TypeId × Value → H) (F : Stop.Interp) :
    ReturnsInHanded {} Tryd.checked os 3 .any ((Rows.OpenSpec.upto Rows.denoteAgainSpec).preRow enc Tryd.prog Tryd.f3 Rows.denoteAgainUptoRow.domain false Rows.denoteAgainUptoRow.laid) (((Rows.OpenSpec.upto Rows.denoteAgainSpec).at F).post enc Tryd.prog Tryd.f3 false true false false) := by
  obtain ⟨places, hx⟩ := reads os enc
  refine returnsInHanded_of_row (C := Tryd.checked) (s := Rows.OpenSpec.upto Rows.denoteAgainSpec) own started (by kernel_rfl) Tryd.func3
    (witness_row_at (enc := enc) (C := Tryd.checked) false (laidWorld os) #[.agg #[.int .i64 0, .int .i64 0, .string ⟨#[]⟩, .slice none 0 0], .int .i64 0, .slice none 0 0, .int .i64 0, .slice none 0 0, .agg #[.string ⟨#[]⟩, .int .i64 0]] rfl (by kernel_rfl) (by kernel_rfl) (by kernel_rfl)
      (OpenSpec.preRow_of_cond 8 hx (by kernel_rfl) (fun k hk => by cases hk; kernel_rfl) (by kernel_rfl) (laid_met os))) ?_
  intro W base args ds gs before hval0 hW _ hcond _ hL _ _
  have hval : ∀ (j : Nat) t v, Tryd.f3.params[j]? = some t → args[j]? = some v → Value.okWide Tryd.prog W .any base t v := hval0
  have hW' := hW
  obtain ⟨p, q, hA0, hV, rfl, hfz, hnd⟩ := hW
  have hA : DataW.TrodAll enc Tryd.prog W 0 (fun _ => true) true Tryd.f3.params.toList args.toList ds p := hA0
  rw [Tryd.params3] at hA hval
  obtain ⟨v0, vs0, d0, ds0, p0, q0, hargs, rfl, rfl, h0, r0⟩ := trodAll_cons hA
  obtain ⟨v1, vs1, d1, ds1, p1, q1, rfl, rfl, rfl, h1, r1⟩ := trodAll_cons r0
  obtain ⟨v2, vs2, d2, ds2, p2, q2, rfl, rfl, rfl, h2, r2⟩ := trodAll_cons r1
  obtain ⟨v3, vs3, d3, ds3, p3, q3, rfl, rfl, rfl, h3, r3⟩ := trodAll_cons r2
  obtain ⟨v4, vs4, d4, ds4, p4, q4, rfl, rfl, rfl, h4, r4⟩ := trodAll_cons r3
  obtain ⟨v5, vs5, d5, ds5, p5, q5, rfl, rfl, rfl, h5, r5⟩ := trodAll_cons r4
  obtain ⟨rfl, rfl, rfl⟩ := trodAll_nil r5
  obtain rfl : args = #[v0, v1, v2, v3, v4, v5] := by cases args; simp_all
  obtain ⟨rfl, rfl⟩ := trodVars_none hV
  have lt0 : ∀ x ∈ p0, x.block < W.heap.size := by obtain ⟨m, hm⟩ := h0; exact DataW.trod_lt m _ _ _ hm
  have lt1 : ∀ x ∈ p1, x.block < W.heap.size := by obtain ⟨m, hm⟩ := h1; exact DataW.trod_lt m _ _ _ hm
  have lt2 : ∀ x ∈ p2, x.block < W.heap.size := by obtain ⟨m, hm⟩ := h2; exact DataW.trod_lt m _ _ _ hm
  have lt3 : ∀ x ∈ p3, x.block < W.heap.size := by obtain ⟨m, hm⟩ := h3; exact DataW.trod_lt m _ _ _ hm
  have lt4 : ∀ x ∈ p4, x.block < W.heap.size := by obtain ⟨m, hm⟩ := h4; exact DataW.trod_lt m _ _ _ hm
  have lt5 : ∀ x ∈ p5, x.block < W.heap.size := by obtain ⟨m, hm⟩ := h5; exact DataW.trod_lt m _ _ _ hm
  have hcnd := of_decide_eq_true (hcond _ rfl)
  simp only [Rows.uptoBulkAll, List.append_nil] at hcnd
  obtain ⟨c0, hc0, hz0⟩ := open_core (hval 0 24 v0 rfl rfl) h0 (by omega)
  obtain ⟨n1, rfl, rfl, rfl, w1⟩ := open_int Tryd.underlying3 (hval 1 3 v1 rfl rfl) h1
  obtain ⟨ap2, al2, ac2, rfl⟩ := okWide_slice Tryd.underlying25 (hval 2 25 v2 rfl rfl)
  obtain ⟨m2, hm2⟩ := h2
  obtain ⟨l2, hl2⟩ := feeds_in (v := .slice ap2 al2 ac2) hm2 (by show Rows.uptoBulk d2 ≤ _; omega)
  have h2 : DataW.Trod enc Tryd.prog W 0 (fun _ => true) true 25 (.slice ap2 al2 ac2) d2 p2 := ⟨m2, hm2⟩
  obtain ⟨n3, rfl, rfl, rfl, w3⟩ := open_int Tryd.underlying3 (hval 3 3 v3 rfl rfl) h3
  obtain ⟨ap4, al4, ac4, rfl⟩ := okWide_slice Tryd.underlying25 (hval 4 25 v4 rfl rfl)
  obtain ⟨m4, hm4⟩ := h4
  obtain ⟨l4, hl4⟩ := feeds_in (v := .slice ap4 al4 ac4) hm4 (by show Rows.uptoBulk d4 ≤ _; omega)
  have h4 : DataW.Trod enc Tryd.prog W 0 (fun _ => true) true 25 (.slice ap4 al4 ac4) d4 p4 := ⟨m4, hm4⟩
  obtain ⟨lab5, wh5, rfl, hlab5⟩ := open_choice (hval 5 27 v5 rfl rfl) h5 (by omega)
  clear hA0 hval0
  refine (law_again c0 _ _ _ n1 l2 n3 l4 lab5 wh5 W (hc0.wk fun _ _ => trivial) (by omega) hl2 hl4 hlab5).mono fun e W' ⟨he, bel⟩ => ?_
  subst he
  exact ⟨_, rfl, _, _, _, [], _, [], hW', trodAll_mk1 (shut_bool Tryd.underlying4 _), (trodAll_cons_mk (Below.trod laidOutX (by kernel_rfl) (of_decide_eq_true (by kernel_rfl)) h0 bel lt0) (trodAll_cons_mk (Below.trod laidOutX (by kernel_rfl) (of_decide_eq_true (by kernel_rfl)) h1 bel lt1) (trodAll_cons_mk (Below.trod laidOutX (by kernel_rfl) (of_decide_eq_true (by kernel_rfl)) h2 bel lt2) (trodAll_cons_mk (Below.trod laidOutX (by kernel_rfl) (of_decide_eq_true (by kernel_rfl)) h3 bel lt3) (trodAll_cons_mk (Below.trod laidOutX (by kernel_rfl) (of_decide_eq_true (by kernel_rfl)) h4 bel lt4) (trodAll_cons_mk (Below.trod laidOutX (by kernel_rfl) (of_decide_eq_true (by kernel_rfl)) h5 bel lt5) trodAll_mk0)))))), rfl, bel.frame _, fun h => by cases h⟩

theorem saidUpto : Rows.DenoteAgainUptoSaid :=
  OpenClaim.holds_of_cond 3 Tryd.f3 rfl rfl rfl rfl rfl rfl rfl ⟨rfl, rfl, rfl, rfl, rfl⟩ rfl rfl rfl rfl rfl (by kernel_rfl) Tryd.func3 (by kernel_rfl)
    (of_decide_eq_true (by kernel_rfl)) (by unfold Func.isWrapper; first | (rw [if_pos (by decide +kernel)]; kernel_rfl) | (rw [if_neg (by decide +kernel)]; exact ⟨rfl, rfl⟩))
    (fun os started H enc _ F => by rw [OpenClaim.pre_eq_preRow]; exact lifted os started H enc F)

theorem plain (f : FuncId) (fn : Func) (hf : Tryd.pinned.checked.prog.funcNamed "usance/usancelaw15.DenoteAgain" = some f) (hfn : Tryd.pinned.checked.prog.funcs[f]? = some fn) :
    false = Tryd.pinned.checked.prog.looks [] ∧ ∀ (j : Nat) t, fn.params[j]? = some t → Tryd.pinned.checked.prog.wantsStandIn t = false := by
  obtain rfl : f = 3 := Option.some.inj ((show Tryd.prog.funcNamed "usance/usancelaw15.DenoteAgain" = some 3 by kernel_rfl).symm.trans hf) |>.symm
  obtain rfl : fn = Tryd.f3 := (Option.some.inj (Tryd.func3.symm.trans hfn)).symm
  refine ⟨by kernel_rfl, fun j t ht => ?_⟩
  rw [Tryd.params3] at ht
  obtain rfl | rfl | rfl | rfl | rfl | rfl : t = 24 ∨ t = 3 ∨ t = 25 ∨ t = 3 ∨ t = 25 ∨ t = 27 := by simpa using Array.mem_of_getElem? ht
  · exact (show Tryd.prog.wantsStandIn 24 = false by kernel_rfl)
  · exact (show Tryd.prog.wantsStandIn 3 = false by kernel_rfl)
  · exact (show Tryd.prog.wantsStandIn 25 = false by kernel_rfl)
  · exact (show Tryd.prog.wantsStandIn 3 = false by kernel_rfl)
  · exact (show Tryd.prog.wantsStandIn 25 = false by kernel_rfl)
  · exact (show Tryd.prog.wantsStandIn 27 = false by kernel_rfl)

theorem cardUpto : Rows.DenoteAgainUptoCardSaid :=
  Claim7.holds_tied_plain_at .later [] _ _ _ _ saidUpto (fun _ h => by cases h) (by kernel_rfl) (fun _ h => by cases h) denoteAgainUpto_row_tie rfl ⟨rfl, rfl⟩ (by kernel_rfl) rfl plain (by kernel_rfl)
end fnDenoteAgain
end Go.Proofs.YtcpobnknmegkmaaDoor
