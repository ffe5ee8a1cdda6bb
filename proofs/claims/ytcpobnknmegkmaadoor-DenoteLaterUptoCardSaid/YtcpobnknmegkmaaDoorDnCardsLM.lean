/- Proved: the law DenoteLater (usancelaw15) returns true and leaves all that was there as it was. Conditions: the arguments together are of bulk at most 1048576 (the second form), the listed tables are tied to the text (the card). -/
import Derived.Test.YtcpobnknmegkmaaDoorDnm1
import Derived.Test.YtcpobnknmegkmaaDoorDnm10
import Derived.Test.YtcpobnknmegkmaaDoorDnm11
import Derived.Test.YtcpobnknmegkmaaDoorDnm12
import Derived.Test.YtcpobnknmegkmaaDoorDnm13
import Derived.Test.YtcpobnknmegkmaaDoorDnm14
import Derived.Test.YtcpobnknmegkmaaDoorDnm15
import Derived.Test.YtcpobnknmegkmaaDoorDnm16
import Derived.Test.YtcpobnknmegkmaaDoorDnm17
import Derived.Test.YtcpobnknmegkmaaDoorDnm18
import Derived.Test.YtcpobnknmegkmaaDoorDnm19
import Derived.Test.YtcpobnknmegkmaaDoorDnm2
import Derived.Test.YtcpobnknmegkmaaDoorDnm20
import Derived.Test.YtcpobnknmegkmaaDoorDnm21
import Derived.Test.YtcpobnknmegkmaaDoorDnm22
import Derived.Test.YtcpobnknmegkmaaDoorDnm23
import Derived.Test.YtcpobnknmegkmaaDoorDnm24
import Derived.Test.YtcpobnknmegkmaaDoorDnm25
import Derived.Test.YtcpobnknmegkmaaDoorDnm26
import Derived.Test.YtcpobnknmegkmaaDoorDnm3
import Derived.Test.YtcpobnknmegkmaaDoorDnm4
import Derived.Test.YtcpobnknmegkmaaDoorDnm5
import Derived.Test.YtcpobnknmegkmaaDoorDnm6
import Derived.Test.YtcpobnknmegkmaaDoorDnm7
import Derived.Test.YtcpobnknmegkmaaDoorDnm8
import Derived.Test.YtcpobnknmegkmaaDoorDnm9
import Derived.Test.YtcpobnknmegkmaaDoorDnl1
import Derived.Test.YtcpobnknmegkmaaDoorDnl2
import Derived.Test.YtcpobnknmegkmaaDoorDnl3
import Derived.Test.YtcpobnknmegkmaaDoorDnl4
namespace Go.Proofs.YtcpobnknmegkmaaDoor
open Go.ChangeShapes Go.WideShapes Go.ChangeAt Go.RowKit
open Go.ChangeMaps (open_string shut_string)
set_option linter.unusedVariables false
set_option maxRecDepth 100000
namespace fnDenoteLater
theorem laid_met (os : Os) : laidMet Tryd.prog Rows.denoteLaterUptoRow.laid ((laidWorld os).forCall (fun _ _ => 0) ⟨#[], #[.agg #[.int .i64 0, .int .i64 0, .string ⟨#[]⟩, .slice none 0 0], .slice none 0 0, .int .i64 0, .slice none 0 0, .agg #[.string ⟨#[]⟩, .int .i64 0]], []⟩).memory :=
  laidMet_of_run' 8 (by kernel_rfl) (by kernel_rfl)
theorem reads (os : Os) {H : Type} (enc : TypeId × Value → H) : ∃ places, DataW.whole enc Tryd.prog ((laidWorld os).forCall (fun _ _ => 0) ⟨#[], #[.agg #[.int .i64 0, .int .i64 0, .string ⟨#[]⟩, .slice none 0 0], .slice none 0 0, .int .i64 0, .slice none 0 0, .agg #[.string ⟨#[]⟩, .int .i64 0]], []⟩).memory Tryd.f4.params.toList Rows.denoteLaterSpec.vars false (#[.agg #[.int .i64 0, .int .i64 0, .string ⟨#[]⟩, .slice none 0 0], .slice none 0 0, .int .i64 0, .slice none 0 0, .agg #[.string ⟨#[]⟩, .int .i64 0]] : Array Value).toList 8 = some ([.agg [.lit (.int .i64 0), .lit (.int .i64 0), .lit (.string []), .nil], .nil, .lit (.int .i64 0), .nil, .agg [.lit (.string []), .lit (.int .i64 0)]], [], places) :=
  ⟨[], by kernel_rfl⟩

theorem lifted (os : Os) (started : os.Started) (H : Type) (enc : TypeId × Value → H) (F : Stop.Interp) :
    ReturnsInHanded {} Tryd.checked os 4 .any ((Rows.OpenSpec.upto Rows.denoteLaterSpec).preRow enc Tryd.prog Tryd.f4 Rows.denoteLaterUptoRow.domain false Rows.denoteLaterUptoRow.laid) (((Rows.OpenSpec.upto Rows.denoteLaterSpec).at F).post enc Tryd.prog Tryd.f4 false true false false) := by
  obtain ⟨places, hx⟩ := reads os enc
  refine returnsInHanded_of_row (C := Tryd.checked) (s := Rows.OpenSpec.upto Rows.denoteLaterSpec) own started (by kernel_rfl) Tryd.func4
    (witness_row_at (enc := enc) (C := Tryd.checked) false (laidWorld os) #[.agg #[.int .i64 0, .int .i64 0, .string ⟨#[]⟩, .slice none 0 0], .slice none 0 0, .int .i64 0, .slice none 0 0, .agg #[.string ⟨#[]⟩, .int .i64 0]] rfl (by kernel_rfl) (by kernel_rfl) (by kernel_rfl)
      (OpenSpec.preRow_of_cond 8 hx (by kernel_rfl) (fun k hk => by cases hk; kernel_rfl) (by kernel_rfl) (laid_met os))) ?_
  intro W base args ds gs before hval0 hW _ hcond _ hL _ _
  have hval : ∀ (j : Nat) t v, Tryd.f4.params[j]? = some t → args[j]? = some v → Value.okWide Tryd.prog W .any base t v := hval0
  have hW' := hW
  obtain ⟨p, q, hA0, hV, rfl, hfz, hnd⟩ := hW
  have hA : DataW.TrodAll enc Tryd.prog W 0 (fun _ => true) true Tryd.f4.params.toList args.toList ds p := hA0
  rw [Tryd.params4] at hA hval
  obtain ⟨v0, vs0, d0, ds0, p0, q0, hargs, rfl, rfl, h0, r0⟩ := trodAll_cons hA
  obtain ⟨v1, vs1, d1, ds1, p1, q1, rfl, rfl, rfl, h1, r1⟩ := trodAll_cons r0
  obtain ⟨v2, vs2, d2, ds2, p2, q2, rfl, rfl, rfl, h2, r2⟩ := trodAll_cons r1
  obtain ⟨v3, vs3, d3, ds3, p3, q3, rfl, rfl, rfl, h3, r3⟩ := trodAll_cons r2
  obtain ⟨v4, vs4, d4, ds4, p4, q4, rfl, rfl, rfl, h4, r4⟩ := trodAll_cons r3
  obtain ⟨rfl, rfl, rfl⟩ := trodAll_nil r4
  obtain rfl : args = #[v0, v1, v2, v3, v4] := by cases args; simp_all
  obtain ⟨rfl, rfl⟩ := trodVars_none hV
  have lt0 : ∀ x ∈ p0, x.block < W.heap.size := by obtain ⟨m, hm⟩ := h0; exact DataW.trod_lt m _ _ _ hm
  have lt1 : ∀ x ∈ p1, x.block < W.heap.size := by obtain ⟨m, hm⟩ := h1; exact DataW.trod_lt m _ _ _ hm
  have lt2 : ∀ x ∈ p2, x.block < W.heap.size := by obtain ⟨m, hm⟩ := h2; exact DataW.trod_lt m _ _ _ hm
  have lt3 : ∀ x ∈ p3, x.block < W.heap.size := by obtain ⟨m, hm⟩ := h3; exact DataW.trod_lt m _ _ _ hm
  have lt4 : ∀ x ∈ p4, x.block < W.heap.size := by obtain ⟨m, hm⟩ := h4; exact DataW.trod_lt m _ _ _ hm
  have hcnd := of_decide_eq_true (hcond _ rfl)
  simp only [Rows.uptoBulkAll, List.append_nil] at hcnd
  obtain ⟨c0, hc0, hz0⟩ := open_core (hval 0 24 v0 rfl rfl) h0 (by omega)
  obtain ⟨ap1, al1, ac1, rfl⟩ := okWide_slice Tryd.underlying29 (hval 1 29 v1 rfl rfl)
  obtain ⟨m1, hm1⟩ := h1
  obtain ⟨l1, hl1, hlen1, hnil1⟩ := lives_in (v := .slice ap1 al1 ac1) hm1
  have h1 : DataW.Trod enc Tryd.prog W 0 (fun _ => true) true 29 (.slice ap1 al1 ac1) d1 p1 := ⟨m1, hm1⟩
  obtain ⟨n2, rfl, rfl, rfl, w2⟩ := open_int Tryd.underlying3 (hval 2 3 v2 rfl rfl) h2
  obtain ⟨ap3, al3, ac3, rfl⟩ := okWide_slice Tryd.underlying25 (hval 3 25 v3 rfl rfl)
  obtain ⟨m3, hm3⟩ := h3
  obtain ⟨l3, hl3, hm2l3⟩ := feeds_in2 (v := .slice ap3 al3 ac3) hm3 (by show Rows.uptoBulk d3 ≤ _; omega)
  have h3 : DataW.Trod enc Tryd.prog W 0 (fun _ => true) true 25 (.slice ap3 al3 ac3) d3 p3 := ⟨m3, hm3⟩
  obtain ⟨lab4, wh4, rfl, hlab4⟩ := open_choice (hval 4 27 v4 rfl rfl) h4 (by omega)
  clear hA0 hval0
  refine (law_later c0 _ _ _ l1 n2 l3 lab4 wh4 W (hc0.wk fun _ _ => trivial) (by omega) hl1 hl3 hm2l3 hlab4).mono fun e W' ⟨he, bel⟩ => ?_
  subst he
  exact ⟨_, rfl, _, _, _, [], _, [], hW', trodAll_mk1 (shut_bool Tryd.underlying4 _), (trodAll_cons_mk (Below.trod laidOutX (by kernel_rfl) (of_decide_eq_true (by kernel_rfl)) h0 bel lt0) (trodAll_cons_mk (Below.trod laidOutX (by kernel_rfl) (of_decide_eq_true (by kernel_rfl)) h1 bel lt1) (trodAll_cons_mk (Below.trod laidOutX (by kernel_rfl) (of_decide_eq_true (by kernel_rfl)) h2 bel lt2) (trodAll_cons_mk (Below.trod laidOutX (by kernel_rfl) (of_decide_eq_true (by kernel_rfl)) h3 bel lt3) (trodAll_cons_mk (Below.trod laidOutX (by kernel_rfl) (of_decide_eq_true (by kernel_rfl)) h4 bel lt4) trodAll_mk0))))), rfl, bel.frame _, fun h => by cases h⟩

theorem saidUpto : Rows.DenoteLaterUptoSaid :=
  OpenClaim.holds_of_cond 4 Tryd.f4 rfl rfl rfl rfl rfl rfl rfl ⟨rfl, rfl, rfl, rfl, rfl⟩ rfl rfl rfl rfl rfl (by kernel_rfl) Tryd.func4 (by kernel_rfl)
    (of_decide_eq_true (by kernel_rfl)) (by unfold Func.isWrapper; first | (rw [if_pos (by decide +kernel)]; kernel_rfl) | (rw [if_neg (by decide +kernel)]; exact ⟨rfl, rfl⟩))
    (fun os started H enc _ F => by rw [OpenClaim.pre_eq_preRow]; exact lifted os started H enc F)

theorem plain (f : FuncId) (fn : Func) (hf : Tryd.pinned.checked.prog.funcNamed "usance/usancelaw15.DenoteLater" = some f) (hfn : Tryd.pinned.checked.prog.funcs[f]? = some fn) :
    false = Tryd.pinned.checked.prog.looks [] ∧ ∀ (j : Nat) t, fn.params[j]? = some t → Tryd.pinned.checked.prog.wantsStandIn t = false := by
  obtain rfl : f = 4 := Option.some.inj ((show Tryd.prog.funcNamed "usance/usancelaw15.DenoteLater" = some 4 by kernel_rfl).symm.trans hf) |>.symm
  obtain rfl : fn = Tryd.f4 := (Option.some.inj (Tryd.func4.symm.trans hfn)).symm
  refine ⟨by kernel_rfl, fun j t ht => ?_⟩
  rw [Tryd.params4] at ht
  obtain rfl | rfl | rfl | rfl | rfl : t = 24 ∨ t = 29 ∨ t = 3 ∨ t = 25 ∨ t = 27 := by simpa using Array.mem_of_getElem? ht
  · exact (show Tryd.prog.wantsStandIn 24 = false by kernel_rfl)
  · exact (show Tryd.prog.wantsStandIn 29 = false by kernel_rfl)
  · exact (show Tryd.prog.wantsStandIn 3 = false by kernel_rfl)
  · exact (show Tryd.prog.wantsStandIn 25 = false by kernel_rfl)
  · exact (show Tryd.prog.wantsStandIn 27 = false by kernel_rfl)

theorem cardUpto : Rows.DenoteLaterUptoCardSaid :=
  Claim7.holds_tied_plain_at .later [] _ _ _ _ saidUpto (fun _ h => by cases h) (by kernel_rfl) (fun _ h => by cases h) denoteLaterUpto_row_tie rfl ⟨rfl, rfl⟩ (by kernel_rfl) rfl plain (by kernel_rfl)
end fnDenoteLater
end Go.Proofs.YtcpobnknmegkmaaDoor
