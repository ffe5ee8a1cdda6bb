/- Proved: the law VmPasses (usancelaw18) returns true and leaves all that was there as it was. Conditions: the arguments together are of bulk at most 1048576 (the second form), the listed tables are tied to the text (the card). -/
import Derived.Test.YtanlmbbalamgkaaGreatDoorVmp35
namespace Go.Proofs.YtanlmbbalamgkaaGreatDoor
set_option linter.unusedVariables false
set_option linter.unusedSimpArgs false
section
open Go.ChangeShapes Go.WideShapes Go.ChangeAt Go.RowKit
open Go.ChangeMaps (open_string shut_string)
set_option maxRecDepth 100000
namespace fnVmPasses
theorem zui (os:Os):laidMet Tryz.prog Rows.vmPassesUptoRow.laid ((zbq os).forCall (fun _ _=>0) ⟨#[],#[.agg #[.int .i64 0,.int .i64 0,.string ⟨#[]⟩,.slice none 0 0],.int .i64 0,.int .i64 0,.int .i64 0,.slice none 0 0],[]⟩).memory:=
 laidMet_of_run' 8 (by kernel_rfl) (by kernel_rfl)
theorem zzp (os:Os){H:Type}(enc:TypeId × Value→H):∃ places,DataW.whole enc Tryz.prog ((zbq os).forCall (fun _ _=>0) ⟨#[],#[.agg #[.int .i64 0,.int .i64 0,.string ⟨#[]⟩,.slice none 0 0],.int .i64 0,.int .i64 0,.int .i64 0,.slice none 0 0],[]⟩).memory Tryz.f4.params.toList Rows.vmPassesSpec.vars false (#[.agg #[.int .i64 0,.int .i64 0,.string ⟨#[]⟩,.slice none 0 0],.int .i64 0,.int .i64 0,.int .i64 0,.slice none 0 0]:Array Value).toList 8=some ([.agg [.lit (.int .i64 0),.lit (.int .i64 0),.lit (.string []),.nil],.lit (.int .i64 0),.lit (.int .i64 0),.lit (.int .i64 0),.nil],[],places):=
 ⟨[],by kernel_rfl⟩
theorem zyk (os:Os)(started:os.Started)(H:Type)(enc:TypeId × Value→H)(F:Stop.Interp):
  ReturnsInHanded {} Tryz.checked os 4 .any ((Rows.OpenSpec.upto Rows.vmPassesSpec).preRow enc Tryz.prog Tryz.f4 Rows.vmPassesUptoRow.domain false Rows.vmPassesUptoRow.laid) (((Rows.OpenSpec.upto Rows.vmPassesSpec).at F).post enc Tryz.prog Tryz.f4 false true false false):=by
 obtain⟨places,hx⟩:=zzp os enc;refine returnsInHanded_of_row (C:=Tryz.checked) (s:=Rows.OpenSpec.upto Rows.vmPassesSpec) own started (by kernel_rfl) Tryz.func4
  (witness_row_at (enc:=enc) (C:=Tryz.checked) false (zbq os) #[.agg #[.int .i64 0,.int .i64 0,.string ⟨#[]⟩,.slice none 0 0],.int .i64 0,.int .i64 0,.int .i64 0,.slice none 0 0] rfl (by kernel_rfl) (by kernel_rfl) (by kernel_rfl)
   (OpenSpec.preRow_of_cond 8 hx (by kernel_rfl) (fun k hk=>by cases hk; kernel_rfl) (by kernel_rfl) (zui os))) ?_
 intro W base args ds gs before A1 hW _ A2 _ hL _ _;have A0:∀(j:Nat) t v,Tryz.f4.params[j]? = some t→args[j]? = some v→Value.okWide Tryz.prog W .any base t v:=A1;have B7:=hW;obtain⟨p,q,A6,hV,rfl,C5,C4⟩:=hW;have hA:DataW.TrodAll enc Tryz.prog W 0 (fun _=>true) true Tryz.f4.params.toList args.toList ds p:=A6;rw[Tryz.params4] at hA A0;obtain⟨v0,C2,d0,D0,p0,q0,A5,rfl,rfl,h0,r0⟩:=trodAll_cons hA;obtain⟨v1,C1,d1,C9,p1,q1,rfl,rfl,rfl,h1,r1⟩:=trodAll_cons r0;obtain⟨v2,C0,d2,C8,p2,q2,rfl,rfl,rfl,h2,r2⟩:=trodAll_cons r1;obtain⟨v3,B9,d3,C7,p3,q3,rfl,rfl,rfl,h3,r3⟩:=trodAll_cons r2;obtain⟨v4,B8,d4,C6,p4,q4,rfl,rfl,rfl,h4,r4⟩:=trodAll_cons r3;obtain⟨rfl,rfl,rfl⟩:=trodAll_nil r4;obtain rfl:args=#[v0,v1,v2,v3,v4]:=by cases args; simp_all
 obtain⟨rfl,rfl⟩:=trodVars_none hV;have B4:∀ x∈p0,x.block<W.heap.size:=by obtain⟨m,hm⟩:=h0; exact DataW.trod_lt m _ _ _ hm
 have B3:∀ x∈p1,x.block<W.heap.size:=by obtain⟨m,hm⟩:=h1; exact DataW.trod_lt m _ _ _ hm
 have B2:∀ x∈p2,x.block<W.heap.size:=by obtain⟨m,hm⟩:=h2; exact DataW.trod_lt m _ _ _ hm
 have B1:∀ x∈p3,x.block<W.heap.size:=by obtain⟨m,hm⟩:=h3; exact DataW.trod_lt m _ _ _ hm
 have B0:∀ x∈p4,x.block<W.heap.size:=by obtain⟨m,hm⟩:=h4; exact DataW.trod_lt m _ _ _ hm
 have A3:=of_decide_eq_true (A2 _ rfl);simp only[Rows.uptoBulkAll,List.append_nil] at A3;obtain⟨c0,B6,C3⟩:=zpx (A0 0 24 v0 rfl rfl) h0 (by omega);obtain⟨n1,rfl,rfl,rfl,w1⟩:=open_int Tryz.underlying3 (A0 1 3 v1 rfl rfl) h1;obtain⟨n2,rfl,rfl,rfl,w2⟩:=open_int Tryz.underlying3 (A0 2 3 v2 rfl rfl) h2;obtain⟨n3,rfl,rfl,rfl,w3⟩:=open_int Tryz.underlying3 (A0 3 3 v3 rfl rfl) h3;obtain⟨A7,A8,A9,rfl⟩:=okWide_slice Tryz.underlying38 (A0 4 38 v4 rfl rfl);obtain⟨m4,A4⟩:=h4;obtain⟨l4,B5⟩:=zri (v:=.slice A7 A8 A9) A4 (by show Rows.uptoBulk d4≤_; omega);have h4:DataW.Trod enc Tryz.prog W 0 (fun _=>true) true 38 (.slice A7 A8 A9) d4 p4:=⟨m4,A4⟩
 clear A6 A1;refine(Gf.law_passes c0 _ n1 n2 n3 l4 _ W B6 (by omega) B5).mono fun e W' ⟨he,bel⟩=>?_;subst he;exact⟨_,rfl,_,_,_,[],_,[],B7,trodAll_mk1 (shut_bool Tryz.underlying4 _),(trodAll_cons_mk (Below.trod ur (by kernel_rfl) (of_decide_eq_true (by kernel_rfl)) h0 bel B4) (trodAll_cons_mk (Below.trod ur (by kernel_rfl) (of_decide_eq_true (by kernel_rfl)) h1 bel B3) (trodAll_cons_mk (Below.trod ur (by kernel_rfl) (of_decide_eq_true (by kernel_rfl)) h2 bel B2) (trodAll_cons_mk (Below.trod ur (by kernel_rfl) (of_decide_eq_true (by kernel_rfl)) h3 bel B1) (trodAll_cons_mk (Below.trod ur (by kernel_rfl) (of_decide_eq_true (by kernel_rfl)) h4 bel B0) trodAll_mk0))))),rfl,bel.frame _,fun h=>by cases h⟩
theorem ztm:Rows.VmPassesUptoSaid:=
 OpenClaim.holds_of_cond 4 Tryz.f4 rfl rfl rfl rfl rfl rfl rfl ⟨rfl,rfl,rfl,rfl,rfl⟩ rfl rfl rfl rfl rfl (by kernel_rfl) Tryz.func4 (by kernel_rfl)
  (of_decide_eq_true (by kernel_rfl)) (by unfold Func.isWrapper; first|(rw[if_pos (by decide +kernel)]; kernel_rfl)|(rw[if_neg (by decide +kernel)]; exact⟨rfl,rfl⟩))
  (fun os started H enc _ F=>by rw[OpenClaim.pre_eq_preRow]; exact zyk os started H enc F)
theorem plain (f:FuncId)(fn:Func)(hf:Tryz.pinned.checked.prog.funcNamed "usance/usancelaw18.VmPasses" = some f)(A0:Tryz.pinned.checked.prog.funcs[f]? = some fn):
  true=Tryz.pinned.checked.prog.looks []∧∀(j:Nat) t,fn.params[j]? = some t→Tryz.pinned.checked.prog.wantsStandIn t=false:=by
 obtain rfl:f=4:=Option.some.inj ((show Tryz.prog.funcNamed "usance/usancelaw18.VmPasses" = some 4 by kernel_rfl).symm.trans hf) |>.symm
 obtain rfl:fn=Tryz.f4:=(Option.some.inj (Tryz.func4.symm.trans A0)).symm;refine⟨by kernel_rfl,fun j t ht=>?_⟩;rw[Tryz.params4] at ht;obtain rfl|rfl|rfl:t=24∨t=3∨t=38:=by simpa using Array.mem_of_getElem? ht
 ·exact(show Tryz.prog.wantsStandIn 24=false by kernel_rfl)
 ·exact(show Tryz.prog.wantsStandIn 3=false by kernel_rfl)
 ·exact(show Tryz.prog.wantsStandIn 38=false by kernel_rfl)
theorem cardUpto:Rows.VmPassesUptoCardSaid:=
 Claim7.holds_tied_plain_at .later [] _ _ _ _ ztm (fun _ h=>by cases h) (by kernel_rfl) (fun _ h=>by cases h) vmPassesUpto_row_tie rfl ⟨rfl,rfl⟩ (by kernel_rfl) rfl plain (by kernel_rfl)
end fnVmPasses
end
end Go.Proofs.YtanlmbbalamgkaaGreatDoor
