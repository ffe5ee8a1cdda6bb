/- Proved: lemmas and contracts of the functions that the law reaches, part 6 of 35: KeepRegion, KeepChain, KeepOrd, KeepStore, ChainApp. Conditions: as each states. -/
import Derived.OrdersHeld
import Derived.Deep.AppendLies
import Derived.Test.YtanlmbbalamgkaaGreatDoorVmp3
import Derived.Test.YtanlmbbalamgkaaGreatDoorVmp5
namespace Go.Proofs.YtanlmbbalamgkaaGreatDoor
set_option linter.unusedVariables false
set_option linter.unusedSimpArgs false
section
open Go.RowKit
section
variable {P:Program}{ops:Array Oper}{md:Region.Mode}{S:World→Prop}
def YieldsS (P:Program)(ops:Array Oper)(S:World→Prop)(o:Oper)(v:Value)(a:Act):Prop:=
 (Region.wanted o (yielded ops a.tmps)=true∧∀ w,S w→((execOp a.eval o).run P w=.ok (.value v) w∨(∃ w',(execOp a.eval o).run P w=.ok (.value v) w'∧S w') ∨
  ∃ f args,(execOp a.eval o).run P w=.ok (.enter f args) w∧Calls P f args w (fun e w''=>e=.returned v∧S w''))) ∨
 (Region.wanted o (yielded ops a.tmps)=false∧v=undef)
theorem YieldsS.of_same {o:Oper}{v:Value}{a a':Act}(hy:YieldsS P ops S o v a)(he:execOp a'.eval o=execOp a.eval o)
  (hw:Region.wanted o (yielded ops a'.tmps)=Region.wanted o (yielded ops a.tmps)):YieldsS P ops S o v a':=by
 unfold YieldsS at *;rw[he,hw];exact hy
theorem YieldsS.wpOp {i:Nat}{o:Oper}{v:Value}{a:Act}{Q:Exit→Act→World→Prop}(hi:ops[i]? = some o)(hy:YieldsS P ops S o v a){K:Act→World→Prop}{w:World}(hS:S w)(h:∀ w',S w'→K (a.put o.dst v) w'):wpOp P ops Q i K a w:=by
 unfold Go.wpOp;simp only[hi];rcases hy with⟨hw,hv⟩|⟨hw,rfl⟩
 ·rcases hv w hS with hv|⟨w',hv,A0⟩|⟨f,args,hv,hc⟩
  ·simp only[hw,if_true,Oper.wp,hv,Oper.upon]; exact .inl (h w hS)
  ·simp only[hw,if_true,Oper.wp,hv,Oper.upon]; exact .inl (h w' A0)
  ·simp only[hw,if_true,Oper.wp,hv,Oper.upon];exact .inl (hc.mono fun e w'' ⟨he,hs⟩=>by subst he; exact h w'' hs)
 ·simp only[hw,Bool.false_eq_true,if_false]; exact h w hS
def stK (P:Program)(ops:Array Oper)(S:World→Prop)(i:Nat)(K:Act→Prop)(a:Act):Prop:=
 match ops[i]? with
 |none=>K a
 |some o=>∃ v,YieldsS P ops S o v a∧K (a.put o.dst v)
theorem zio {i:Nat}{a:Act}{K K':Act→Prop}(h:∀ a,K a→K' a)(hh:stK P ops S i K a):stK P ops S i K' a:=by
 unfold stK at *;split
 ·exact h _ (by simpa [*] using hh)
 ·rename_i o ho;simp only[ho] at hh;obtain⟨v,h1,h2⟩:=hh;exact⟨v,h1,h _ h2⟩
def zay (P:Program)(md:Region.Mode)(ops:Array Oper)(S:World→Prop)(Q:Act→Prop):Nat→Array Bool→Act→Prop
 |0,listed,a=>Region.ready md ops listed=[]∧Q a
 |fuel+1,listed,a=>
  (Region.ready md ops listed=[]→Q a) ∧
  ∀ i∈Region.ready md ops listed,stK P ops S i (zay P md ops S Q fuel (listed.setIfInBounds i true)) a
theorem yw {Q:Act→Prop}{Q':Exit→Act→World→Prop}(hQ:∀ a w,S w→Q a→Q' .normal a w):∀(fuel:Nat) (listed:Array Bool) (a:Act) (w:World),S w →
  zay P md ops S Q fuel listed a→wpAny P md ops Q' fuel listed a w
 |0,_,_,w,hS,h=>⟨h.1,hQ _ _ hS h.2⟩
 |fuel+1,_,a,w,hS,h=>⟨fun h0=>hQ _ _ hS (h.1 h0),fun i hi=>by
   have h2:=h.2 i hi;unfold stK at h2;cases ho:ops[i]? with
   |none=>
    simp only[ho] at h2;unfold Go.wpOp;simp only[ho];exact yw hQ fuel _ _ _ hS h2
   |some o=>
    simp only[ho] at h2;obtain⟨v,hy,hk⟩:=h2;exact hy.wpOp ho hS (fun w' A0=>yw hQ fuel _ _ _ A0 hk)⟩
theorem zlx {j:Nat}{oi oj:Oper}{v:Value}(hj:ops[j]? = some oj)(A2:oi.apart ops oj=true)
  (A1:∀ cs b,oi.op≠.select cs b) (A0:∀ cs b,oj.op≠.select cs b) {K:Act→Prop} {a:Act}
  (hy:YieldsS P ops S oi v a) (h:stK P ops S j K (a.put oi.dst v)):
  stK P ops S j (fun a'=>YieldsS P ops S oi v a'∧K (a'.put oi.dst v)) a:=by
 obtain⟨h1,h2,h3⟩:=Oper.apart_spec A2;have keep:∀(a:Act),YieldsS P ops S oi v a→∀ u,YieldsS P ops S oi v (a.put oj.dst u):=fun a hy u=>
  hy.of_same (execOp_put oi A1 a oj.dst u h3) (wanted_put oi a oj.dst u h3)
 unfold stK at *;simp only[hj] at *;obtain⟨u,hu,hk⟩:=h;refine⟨u,hu.of_same (execOp_put oj A0 a oi.dst v h1).symm (wanted_put oj a oi.dst v h1).symm,keep a hy u,?_⟩;rw[←Act.put_comm a v u h2];exact hk
theorem zif {Q:Act→Prop}{i:Nat}{oi:Oper}{v:Value}(hi:ops[i]? = some oi)(A3:∀(j:Nat) (o:Oper) cs b,ops[j]? = some o→o.op≠.select cs b):
  ∀(fuel:Nat) (listed:Array Bool) (a:Act),
   (∀ j oj,ops[j]? = some oj→j≠i→listed.getD j true=false→(∀ e∈oj.after,Region.binds md e=true→e.on≠i)→oi.apart ops oj=true) →
   i∈Region.ready md ops listed→YieldsS P ops S oi v a →
   zay P md ops S Q fuel (listed.setIfInBounds i true) (a.put oi.dst v)→zay P md ops S Q (fuel+1) listed a:=by
 intro fuel;have A9:∀ {a:Act} {K:Act→Prop},YieldsS P ops S oi v a→K (a.put oi.dst v)→stK P ops S i K a:=by
  intro a K hy h;unfold stK;simp only[hi];exact⟨v,hy,h⟩
 induction fuel with
 |zero=>
  intro listed a _ hr hy H;refine⟨fun h=>(by rw[h] at hr; cases hr),fun j hj=>?_⟩;by_cases A0:j=i
  ·subst A0; exact A9 hy H
  ·have:=ready_mono hj A0;rw[H.1] at this;cases this
 |succ fuel ih=>
  intro listed a A1 hr hy H;refine⟨fun h=>(by rw[h] at hr; cases hr),fun j hj=>?_⟩;by_cases A0:j=i
  ·subst A0; exact A9 hy H
  ·have h1:=H.2 j (ready_mono hj A0);obtain⟨A4,oj,A5,A7⟩:=mem_ready.1 hj;have A6:∀ e∈oj.after,Region.binds md e=true→e.on≠i:=fun e he hb B3=>by
    have h1:=A7 e he hb;have h0:=(mem_ready.1 hr).1;rw[B3] at h1;rcases Nat.lt_or_ge i listed.size with h'|h'
    ·simp[h'] at h0 h1; rw[h0] at h1; cases h1
    ·simp[Array.getElem?_eq_none h'] at h1
   have h2:=zlx A5 (A1 j oj A5 A0 A4 A6) (fun cs b=>A3 i oi cs b hi) (fun cs b=>A3 j oj cs b A5) hy h1;have A2:∀ k ok,ops[k]? = some ok→k≠i→(listed.setIfInBounds j true).getD k true=false →
     (∀ e∈ok.after,Region.binds md e=true→e.on≠i)→oi.apart ops ok=true:=fun k ok hk B2 A8 B1=>by
    refine A1 k ok hk B2 ?_ B1;by_cases B0:j=k
    ·subst B0; exact A4
    ·rw[getD_set_ne true B0] at A8; exact A8
   refine zio (fun a' h3=>ih (listed.setIfInBounds j true) a' A2 (ready_mono hr (Ne.symm A0)) h3.1 ?_) h2;rw[Array.setIfInBounds_comm _ _ A0];exact h3.2
def mf (P:Program)(ops:Array Oper)(S:World→Prop)(Q:Act→Prop):List Oper→Act→Prop
 | [],a=>Q a
 |o::rest,a=>∃ v,YieldsS P ops S o v a∧mf P ops S Q rest (a.put o.dst v)
theorem zeb {Q:Act→Prop}(hs:Region.noSelect ops=true):∀(l:List Oper) (k:Nat) (listed:Array Bool) (a:Act),(∀ j,l[j]? = ops[k+j]?) →
  Region.lexFrom md ops l.length k listed=true→mf P ops S Q l a→zay P md ops S Q l.length listed a
 | [],_,_,_,_,hB,h=>⟨by simpa [Region.lexFrom] using hB,h⟩
 |o::l,k,listed,a,hl,hB,h=>by
  have h0:ops[k]? = some o:=by simpa using (hl 0).symm
  simp only[List.length_cons,Region.lexFrom,Bool.and_eq_true] at hB;obtain⟨⟨hr,hf⟩,A0⟩:=hB;obtain⟨v,hy,hK⟩:=h;exact zif h0 (Region.noSelect_spec hs) l.length listed a (Region.free_spec h0 hf) (by simpa using hr) hy
   (zeb hs l (k+1) _ _ (fun j=>by have:=hl (j+1); simpa [Nat.add_assoc,Nat.add_comm 1 j] using this) A0 hK)
theorem bj {id:Nat}{Q:Exit→Act→World→Prop}{a:Act}{w:World}{l:List Oper}(S:World→Prop)(hm:P.follows .mixedOrders=true)(hB:Region.lexB .any l.toArray=true)
  (hS:S w.drew) (h:mf P l.toArray S (fun a'=>∀ w',S w'→Q .normal a' w') l a):(Code.region id l.toArray true).wp P Q a w:=by
 simp only[Region.lexB,Bool.and_eq_true] at hB;refine wp_region_any hm (yw (S:=S) (Q:=fun a'=>∀ w',S w'→Q .normal a' w') (fun a w hS h=>h w hS) _ _ _ _ hS ?_)
 have:=zeb (md:=.any) hB.1 l 0 (Array.replicate l.toArray.size false) a (by simp) (by simpa using hB.2) h;simpa using this
theorem ch {Q:Act→Prop}{a:Act}(h:Q a):mf P ops S Q [] a:=h
theorem br {Q:Act→Prop}{a:Act}{o:Oper}{rest:List Oper}(hw:Region.wanted o (yielded ops a.tmps)=false)(h:mf P ops S Q rest (a.put o.dst undef)):mf P ops S Q (o::rest) a:=
 ⟨undef,.inr ⟨hw,rfl⟩,h⟩
theorem cg {Q:Act→Prop}{a:Act}{o:Oper}{rest:List Oper}{v:Value}(hw:Region.wanted o (yielded ops a.tmps)=true)(hv:∀ w,S w→(execOp a.eval o).run P w=.ok (.value v) w)(h:mf P ops S Q rest (a.put o.dst v)):mf P ops S Q (o::rest) a:=
 ⟨v,.inl ⟨hw,fun w hS=>.inl (hv w hS)⟩,h⟩
theorem az {Q:Act→Prop}{a:Act}{o:Oper}{rest:List Oper}{v:Value}(f:FuncId)(args:Array Value)(hw:Region.wanted o (yielded ops a.tmps)=true)(hr:∀ w,S w→(execOp a.eval o).run P w=.ok (.enter f args) w)
  (hc:∀ w,S w→Calls P f args w (fun e w''=>e=.returned v∧S w'')) (h:mf P ops S Q rest (a.put o.dst v)):mf P ops S Q (o::rest) a:=
 ⟨v,.inl ⟨hw,fun w hS=>.inr (.inr ⟨f,args,hr w hS,hc w hS⟩)⟩,h⟩
/-! Such a region whose last operations run in one order. -/
theorem zkj {i:Nat}{a:Act}{w:World}{K:Act→Prop}{K':Act→World→Prop}{Q':Exit→Act→World→Prop}(hS:S w)(h:∀ a w,S w→K a→K' a w)(hh:stK P ops S i K a):wpOp P ops Q' i K' a w:=by
 unfold stK at hh;cases ho:ops[i]? with
 |none=>
  simp only[ho] at hh;unfold Go.wpOp;simp only[ho];exact h _ _ hS hh
 |some o=>
  simp only[ho] at hh;obtain⟨v,hy,hk⟩:=hh;exact hy.wpOp ho hS (fun w' A0=>h _ _ A0 hk)
def xq (P:Program)(md:Region.Mode)(ops:Array Oper)(S:World→Prop)(n:Nat)(L:Array Bool→Act→Prop):Nat→Array Bool→Act→Prop
 |0,listed,a=>L listed a
 |f+1,listed,a=>
  Region.ready md ops listed≠[]∧∀ i∈Region.ready md ops listed,i<n∧stK P ops S i (xq P md ops S n L f (listed.setIfInBounds i true)) a
theorem xm {n g:Nat}{L:Array Bool→Act→Prop}{Q':Exit→Act→World→Prop}(hL:∀ listed a w,S w→L listed a→wpAny P md ops Q' g listed a w):
  ∀(f:Nat) (listed:Array Bool) (a:Act) (w:World),S w→xq P md ops S n L f listed a→wpAny P md ops Q' (f+g) listed a w
 |0,listed,a,w,hS,h=>by rw[Nat.zero_add]; exact hL _ _ _ hS h
 |f+1,listed,a,w,hS,h=>by
  rw[show f+1+g=(f+g)+1 by omega];exact⟨fun h0=>absurd h0 h.1,fun i hi=>zkj hS (fun a' w' A0 h'=>xm hL f _ a' w' A0 h') (h.2 i hi).2⟩
theorem zhr {n i:Nat}{oi:Oper}{v:Value}{L:Array Bool→Act→Prop}(hi:ops[i]? = some oi)(A4:∀(j:Nat) (o:Oper) cs b,ops[j]? = some o→o.op≠.select cs b)
  (hs:Region.sinkB md ops n=true) (hc:Region.chainB md ops n=true) (hn:n<ops.size) (B3:i<n)
  (A6:∀ listed a,L listed a→∀ j∈Region.ready md ops listed,n≤j):
  ∀(f:Nat) (listed:Array Bool) (a:Act),HeadInv md ops n listed →
   (∀ j oj,ops[j]? = some oj→j≠i→listed.getD j true=false→(∀ e∈oj.after,Region.binds md e=true→e.on≠i)→oi.apart ops oj=true) →
   i∈Region.ready md ops listed→YieldsS P ops S oi v a →
   xq P md ops S n L f (listed.setIfInBounds i true) (a.put oi.dst v)→xq P md ops S n L (f+1) listed a:=by
 intro f;have B1:∀ {a:Act} {K:Act→Prop},YieldsS P ops S oi v a→K (a.put oi.dst v)→stK P ops S i K a:=by
  intro a K hy h;unfold stK;simp only[hi];exact⟨v,hy,h⟩
 induction f with
 |zero=>
  intro listed a inv _ hr hy H;have A2:=(mem_ready.1 hr).1;refine⟨fun h=>(by rw[h] at hr; cases hr),fun j hj=>?_⟩;have A7:j<n:=by
   rcases Nat.lt_or_ge j n with h|h
   ·exact h
   ·exact absurd hj (tail_waits hs hc hn inv _ i rfl B3 A2 j h)
  refine⟨A7,?_⟩;by_cases A0:j=i
  ·subst A0; exact B1 hy H
  ·have:=A6 _ _ H j (ready_mono hj A0);omega
 |succ f ih=>
  intro listed a inv A1 hr hy H;have A2:=(mem_ready.1 hr).1;refine⟨fun h=>(by rw[h] at hr; cases hr),fun j hj=>?_⟩;have A7:j<n:=by
   rcases Nat.lt_or_ge j n with h|h
   ·exact h
   ·exact absurd hj (tail_waits hs hc hn inv _ i rfl B3 A2 j h)
  refine⟨A7,?_⟩;by_cases A0:j=i
  ·subst A0; exact B1 hy H
  ·have h1:=(H.2 j (ready_mono hj A0)).2;obtain⟨A5,oj,A8,B0⟩:=mem_ready.1 hj;have A9:∀ e∈oj.after,Region.binds md e=true→e.on≠i:=fun e he hb B6=>by
    have h1:=B0 e he hb;rw[B6,getD_both A2] at h1;cases h1
   have h2:=zlx A8 (A1 j oj A8 A0 A5 A9) (fun cs b=>A4 i oi cs b hi) (fun cs b=>A4 j oj cs b A8) hy h1;have A3:∀ k ok,ops[k]? = some ok→k≠i→(listed.setIfInBounds j true).getD k true=false →
     (∀ e∈ok.after,Region.binds md e=true→e.on≠i)→oi.apart ops ok=true:=fun k ok hk B5 A2 B4=>by
    refine A1 k ok hk B5 ?_ B4;by_cases B2:j=k
    ·subst B2; exact A5
    ·rw[getD_set_ne true B2] at A2; exact A2
   refine zio (fun a' h3=>ih (listed.setIfInBounds j true) a' (inv.set hj A7) A3 (ready_mono hr (Ne.symm A0)) h3.1 ?_) h2;rw[Array.setIfInBounds_comm _ _ A0];exact h3.2
theorem zcw {n g:Nat}{Lq:Act→Prop}(A0:Region.noSelect ops=true)(hs:Region.sinkB md ops n=true)(hc:Region.chainB md ops n=true)(hn:n<ops.size):
  ∀(l:List Oper) (k:Nat) (listed:Array Bool) (a:Act),(∀ j,j<l.length→l[j]? = ops[k+j]?)→k+l.length=n→HeadInv md ops n listed →
  Region.lexHead md ops g l.length k listed=true→mf P ops S Lq l a →
  xq P md ops S n (fun listed' a'=>Region.seqB md ops g n listed'=true∧Lq a') l.length listed a
 | [],k,listed,a,_,hk,_,hB,h=>by
  have:k=n:=by simpa using hk
  subst this;exact⟨by simpa [Region.lexHead] using hB,h⟩
 |o::l,k,listed,a,hl,hk,inv,hB,h=>by
  have h0:ops[k]? = some o:=by simpa using (hl 0 (by simp)).symm
  simp only[List.length_cons,Region.lexHead,Bool.and_eq_true] at hB;obtain⟨⟨hr,hf⟩,A3⟩:=hB;have A2:k<n:=by simp only[List.length_cons] at hk; omega
  have A1:k∈Region.ready md ops listed:=by simpa using hr
  obtain⟨v,hy,hK⟩:=h;exact zhr h0 (Region.noSelect_spec A0) hs hc hn A2 (fun listed' a' hL=>seqB_ready hL.1) l.length listed a inv (Region.free_spec h0 hf) A1 hy
   (zcw A0 hs hc hn l (k+1) _ _ (fun j hj=>by have:=hl (j+1) (by simp; omega); simpa [Nat.add_assoc,Nat.add_comm 1 j] using this) (by simp only[List.length_cons] at hk; omega) (inv.set A1 A2) A3 hK)
theorem mr {id:Nat}{Q:Exit→Act→World→Prop}{a:Act}{w:World}{l:List Oper}(S:World→Prop)(n:Nat)(hm:P.follows .mixedOrders=true)(hB:Region.lexTailB .any l.toArray n=true)
  (hS:S w.drew) (h:mf P l.toArray S (fun a'=>∀ w',S w'→wpList P l.toArray Q (l.drop n) a' w') (l.take n) a):(Code.region id l.toArray true).wp P Q a w:=by
 simp only[Region.lexTailB,Bool.and_eq_true,decide_eq_true_eq] at hB;obtain⟨⟨⟨⟨A2,hn⟩,hs⟩,hc⟩,A3⟩:=hB;have A7:n<l.length:=by simpa using hn
 have A0:(l.take n).length=n:=by simp; omega
 have A4:(l.drop n).length=l.toArray.size - n:=by simp
 have A1:HeadInv .any l.toArray n (Array.replicate l.toArray.size false):=
  ⟨by simp,fun j oj _ hl=>(by rw[getD_replicate_false] at hl; cases hl),fun t _ ht=>getD_in (by simpa using ht) (getD_replicate_false _ _)⟩
 have H:=zcw (md:=.any) (g:=l.toArray.size - n) A2 hs hc hn (l.take n) 0 _ a (fun j hj=>by
  have A5:j<n:=by rw[A0] at hj; exact hj
  simp[A5]) (by simpa using A0) A1 (by rw[A0]; exact A3) h
 refine wp_region_any hm ?_
 have:=xm (Q':=Q) (g:=l.toArray.size - n) (S:=S) (fun listed a' w' A6 hL=>by
  have:=wpAny_of_seq (md:=.any) (Q':=Q) (l.drop n) n listed a' w' (fun j=>by simp[List.getElem?_drop]) (by rw[A4]; exact hL.1) (hL.2 w' A6);rwa [A4] at this) _ _ _ _ hS H
 rw[A0,show n+(l.toArray.size - n)=l.toArray.size by omega] at this;exact this
end
end
section
open Go.RowKit
section
variable {P:Program}{ops:Array Oper}{md:Region.Mode}{Fact:World→Prop}{st:Nat}{Q:Act→World→Prop}
def ActsR (P:Program)(ops:Array Oper)(o:Oper)(a:Act)(w:World)(R:Value→World→Prop):Prop:=
 (Region.wanted o (yielded ops a.tmps)=true∧((∃ v w',(execOp a.eval o).run P w=.ok (.value v) w'∧R v w')∨(∃ w',(execOp a.eval o).run P w=.ok .skip w'∧R undef w') ∨
  (∃ f args,(execOp a.eval o).run P w=.ok (.enter f args) w∧Calls P f args w (fun e w'=>∃ v,e=.returned v∧R v w')))) ∨
 (Region.wanted o (yielded ops a.tmps)=false∧R undef w)
theorem ActsR.mono {o:Oper}{a:Act}{w:World}{R R':Value→World→Prop}(h:ActsR P ops o a w R)(hR:∀ v w',R v w'→R' v w'):ActsR P ops o a w R':=by
 rcases h with⟨h1,h2⟩|⟨h1,h2⟩
 ·refine .inl ⟨h1,?_⟩;rcases h2 with⟨v,w',h,hr⟩|⟨w',h,hr⟩|⟨f,args,h,hc⟩
  ·exact .inl ⟨v,w',h,hR _ _ hr⟩
  ·exact .inr (.inl ⟨w',h,hR _ _ hr⟩)
  ·exact .inr (.inr ⟨f,args,h,hc.mono fun e w' ⟨v,he,hr⟩=>⟨v,he,hR _ _ hr⟩⟩)
 ·exact .inr ⟨h1,hR _ _ h2⟩
theorem ActsR.of_same {o:Oper}{a a':Act}{w:World}{R:Value→World→Prop}(h:ActsR P ops o a w R)(he:execOp a'.eval o=execOp a.eval o)
  (hw:Region.wanted o (yielded ops a'.tmps)=Region.wanted o (yielded ops a.tmps)):ActsR P ops o a' w R:=by
 unfold ActsR at *;rw[he,hw];exact h
theorem ActsR.wpOp {i:Nat}{o:Oper}{a:Act}{w:World}{Q':Exit→Act→World→Prop}{K:Act→World→Prop}(hi:ops[i]? = some o)(h:ActsR P ops o a w (fun v w'=>K (a.put o.dst v) w')):wpOp P ops Q' i K a w:=by
 unfold Go.wpOp;simp only[hi];rcases h with⟨hw,h2⟩|⟨hw,h2⟩
 ·rcases h2 with⟨v,w',h,hr⟩|⟨w',h,hr⟩|⟨f,args,h,hc⟩
  ·simp only[hw,if_true,Oper.wp,h,Oper.upon]; exact .inl hr
  ·simp only[hw,if_true,Oper.wp,h,Oper.upon]; exact .inl hr
  ·simp only[hw,if_true,Oper.wp,h,Oper.upon];exact .inl (hc.mono fun e w'' ⟨v,he,hr⟩=>by subst he; exact hr)
 ·simp only[hw,Bool.false_eq_true,if_false]; exact h2
def zsi (Fact:World→Prop)(st:Nat)(listed:Array Bool)(w:World):Prop:=listed.getD st false=true∨Fact w
def sa (P:Program)(md:Region.Mode)(ops:Array Oper)(Fact:World→Prop)(st:Nat)(Q:Act→World→Prop):Nat→Array Bool→Act→World→Prop
 |0,listed,a,w=>Region.ready md ops listed=[]∧Q a w
 |fuel+1,listed,a,w=>
  (Region.ready md ops listed=[]→Q a w) ∧
  ∀ i∈Region.ready md ops listed,∃ o,ops[i]? = some o∧ActsR P ops o a w (fun v w'=>zsi Fact st (listed.setIfInBounds i true) w'∧sa P md ops Fact st Q fuel (listed.setIfInBounds i true) (a.put o.dst v) w')
theorem yx {Q':Exit→Act→World→Prop}(hQ:∀ a w,Q a w→Q' .normal a w):∀(fuel:Nat) (listed:Array Bool) (a:Act) (w:World),sa P md ops Fact st Q fuel listed a w→wpAny P md ops Q' fuel listed a w
 |0,_,_,_,h=>⟨h.1,hQ _ _ h.2⟩
 |fuel+1,_,a,w,h=>⟨fun h0=>hQ _ _ (h.1 h0),fun i hi=>by
   obtain⟨o,ho,h2⟩:=h.2 i hi;exact ActsR.wpOp ho (h2.mono fun v w' h3=>yx hQ fuel _ _ _ h3.2)⟩
def QuietC (P:Program)(ops:Array Oper)(Fact:World→Prop)(o:Oper)(v:Value)(a:Act):Prop:=∀ w,Fact w→ActsR P ops o a w (fun u w'=>u=v∧w'=w)
theorem QuietC.of_same {o:Oper}{v:Value}{a a':Act}(h:QuietC P ops Fact o v a)(he:execOp a'.eval o=execOp a.eval o)
  (hw:Region.wanted o (yielded ops a'.tmps)=Region.wanted o (yielded ops a.tmps)):QuietC P ops Fact o v a':=fun w hF=>(h w hF).of_same he hw
def zba (md:Region.Mode)(ops:Array Oper)(st i:Nat):Bool:=match ops[st]? with
 |none=>true
 |some o=>st != i && o.after.any fun e=>Region.binds md e && e.on == i
theorem zaz {i:Nat}{oi:Oper}{v:Value}(hi:ops[i]? = some oi)(A3:∀(j:Nat) (o:Oper) cs b,ops[j]? = some o→o.op≠.select cs b)(A2:zba md ops st i=true):
  ∀(fuel:Nat) (listed:Array Bool) (a:Act) (w:World),listed.getD st false=false→Fact w →
   (∀ j oj,ops[j]? = some oj→j≠i→listed.getD j true=false→(∀ e∈oj.after,Region.binds md e=true→e.on≠i)→oi.apart ops oj=true) →
   i∈Region.ready md ops listed→QuietC P ops Fact oi v a →
   sa P md ops Fact st Q fuel (listed.setIfInBounds i true) (a.put oi.dst v) w→sa P md ops Fact st Q (fuel+1) listed a w:=by
 intro fuel;have own:∀(f:Nat) (listed:Array Bool) (a:Act) (w:World),Fact w→QuietC P ops Fact oi v a→sa P md ops Fact st Q f (listed.setIfInBounds i true) (a.put oi.dst v) w →
   ∃ o,ops[i]? = some o∧ActsR P ops o a w (fun v w'=>zsi Fact st (listed.setIfInBounds i true) w'∧sa P md ops Fact st Q f (listed.setIfInBounds i true) (a.put o.dst v) w'):=by
  intro f listed a w hF hq H;refine⟨oi,hi,(hq w hF).mono ?_⟩;rintro u w' ⟨rfl,rfl⟩;exact⟨.inr hF,H⟩
 induction fuel with
 |zero=>
  intro listed a w hs hF _ hr hq H;refine⟨fun h=>(by rw[h] at hr; cases hr),fun j hj=>?_⟩;by_cases A0:j=i
  ·subst A0; exact own 0 _ _ _ hF hq H
  ·have:=ready_mono hj A0;rw[H.1] at this;cases this
 |succ fuel ih=>
  intro listed a w hs hF A1 hr hq H;refine⟨fun h=>(by rw[h] at hr; cases hr),fun j hj=>?_⟩;by_cases A0:j=i
  ·subst A0; exact own _ _ _ _ hF hq H
  ·obtain⟨oj,A4,h1⟩:=H.2 j (ready_mono hj A0);obtain⟨A6,oj',A9,B1⟩:=mem_ready.1 hj;obtain rfl:oj=oj':=Option.some.inj (A4.symm.trans A9);have B7:=(mem_ready.1 hr).1;have A5:∀ e∈oj.after,Region.binds md e=true→e.on≠i:=fun e he hb B8=>by
    have h1:=B1 e he hb;rw[B8,getD_both B7] at h1;cases h1
   have A7:j≠st:=by
    rintro rfl;unfold zba at A2;rw[A4] at A2;simp only[Bool.and_eq_true] at A2;obtain⟨e,he,hb⟩:=Array.any_eq_true'.1 A2.2;simp only[Bool.and_eq_true,beq_iff_eq] at hb;exact A5 e he hb.1 hb.2
   have B9:=A1 j oj A4 A0 A6 A5;obtain⟨p1,p2,p3⟩:=Oper.apart_spec B9;refine⟨oj,A4,(h1.of_same (execOp_put oj (fun cs b=>A3 j oj cs b A4) a oi.dst v p1).symm (wanted_put oj a oi.dst v p1).symm).mono ?_⟩;rintro u w' ⟨hC,hK⟩;have hs':(listed.setIfInBounds j true).getD st false=false:=by rw[getD_set_ne false A7]; exact hs
   have A8:((listed.setIfInBounds i true).setIfInBounds j true).getD st false=false:=by
    have B0:i≠st:=by
     rintro rfl;unfold zba at A2;rw[hi] at A2;simp at A2
    rw[getD_set_ne false A7,getD_set_ne false B0];exact hs
   have B4:Fact w':=hC.resolve_left (by rw[A8]; decide);refine⟨.inr B4,ih (listed.setIfInBounds j true) (a.put oj.dst u) w' hs' B4 (fun k ok hk B6 B2 B5=>?_) (ready_mono hr (Ne.symm A0))
    (hq.of_same (execOp_put oi (fun cs b=>A3 i oi cs b hi) a oj.dst u p3) (wanted_put oi a oj.dst u p3)) ?_⟩
   ·refine A1 k ok hk B6 ?_ B5;by_cases B3:j=k
    ·subst B3; exact A6
    ·rw[getD_set_ne true B3] at B2; exact B2
   ·rw[Array.setIfInBounds_comm _ _ A0,←Act.put_comm a v u p2];exact hK
def gi (P:Program)(ops:Array Oper)(Fact:World→Prop)(st:Nat)(Q:Act→World→Prop):Nat→List Bool→List Oper→Act→World→Prop
 |_,_,[],a,w=>Q a w
 |_,[],_::_,_,_=>False
 |k,true::bs,o::rest,a,w=>ActsR P ops o a w (fun v w'=>(st≤k∨Fact w')∧gi P ops Fact st Q (k+1) bs rest (a.put o.dst v) w')
 |k,false::bs,o::rest,a,w=>∃ v,QuietC P ops Fact o v a∧gi P ops Fact st Q (k+1) bs rest (a.put o.dst v) w
def ol (md:Region.Mode)(ops:Array Oper)(st:Nat):List Bool→Nat→Array Bool→Bool
 | [],k,listed=>decide (k=ops.size) && (Region.ready md ops listed).isEmpty
 |true::bs,k,listed=>Region.ready md ops listed == [k] && ol md ops st bs (k+1) (listed.setIfInBounds k true)
 |false::bs,k,listed=>(Region.ready md ops listed).contains k && Region.free md ops listed k && zba md ops st k && decide (k<st) && ol md ops st bs (k+1) (listed.setIfInBounds k true)
theorem yz (hs:Region.noSelect ops=true):∀(l:List Oper) (bs:List Bool) (k:Nat) (listed:Array Bool) (a:Act) (w:World),(∀ j,l[j]? = ops[k+j]?)→(∀ j,k≤j→listed.getD j false=false)→(∀ j,j<k→listed.getD j false=true)→(k≤st→Fact w) →
  ol md ops st bs k listed=true→gi P ops Fact st Q k bs l a w→sa P md ops Fact st Q l.length listed a w
 | [],bs,k,listed,a,w,hl,_,_,_,hB,h=>by
  have hk:ops.size≤k:=by
   have:=hl 0;simp at this;omega
  refine⟨?_,by cases bs with|nil=>exact h|cons b bs=>cases b<;>exact h⟩;cases bs with
  |nil=>
   simp only[ol,Bool.and_eq_true] at hB;simpa using hB.2
  |cons b bs=>
   exfalso;cases b with
   |true=>
    simp only[ol,Bool.and_eq_true,beq_iff_eq] at hB
    have:k∈Region.ready md ops listed:=by rw[hB.1]; exact List.mem_singleton.2 rfl
    obtain⟨-,o,ho, -⟩:=mem_ready.1 this
    have:=(Array.getElem?_eq_some_iff.1 ho).1;omega
   |false=>
    simp only[ol,Bool.and_eq_true] at hB
    have:k∈Region.ready md ops listed:=by simpa using hB.1.1.1.1
    obtain⟨-,o,ho, -⟩:=mem_ready.1 this
    have:=(Array.getElem?_eq_some_iff.1 ho).1;omega
 |o::l,bs,k,listed,a,w,hl,hz,hd,hF,hB,h=>by
  have h0:ops[k]? = some o:=by simpa using (hl 0).symm
  have A3:∀ j,l[j]? = ops[k+1+j]?:=fun j=>by have:=hl (j+1); simpa [Nat.add_assoc,Nat.add_comm 1 j] using this
  have A2:∀ j,k+1≤j→(listed.setIfInBounds k true).getD j false=false:=fun j hj=>by rw[getD_set_ne false (by omega)]; exact hz j (by omega)
  have A1:k<listed.size→∀ j,j<k+1→(listed.setIfInBounds k true).getD j false=true:=fun A5 j hj=>by
   by_cases e:j=k
   ·subst e; simp[A5]
   ·rw[getD_set_ne false (fun h=>e h.symm)]; exact hd j (by omega)
  cases bs with
  |nil=>exact h.elim
  |cons b bs=>
   cases b with
   |true=>
    simp only[ol,Bool.and_eq_true,beq_iff_eq] at hB;refine⟨fun h1=>(by rw[h1] at hB; cases hB.1),fun i hi=>?_⟩;rw[hB.1,List.mem_singleton] at hi;subst hi;refine⟨o,h0,ActsR.mono h ?_⟩;rintro v w' ⟨hc,hK⟩;have A4:i<listed.size:=by
     have:i∈Region.ready md ops listed:=by rw[hB.1]; exact List.mem_singleton.2 rfl
     have A0:=(mem_ready.1 this).1;rcases Nat.lt_or_ge i listed.size with h'|h'
     ·exact h'
     ·simp[Array.getElem?_eq_none h'] at A0
    refine⟨hc.elim (fun e=>.inl (A1 A4 st (by omega))) .inr,yz hs l bs (i+1) _ _ w' A3 A2 (A1 A4) (fun A6=>hc.resolve_left (by omega)) hB.2 hK⟩
   |false=>
    simp only[ol,Bool.and_eq_true,decide_eq_true_eq] at hB;obtain⟨⟨⟨⟨hr,hf⟩,hw⟩,A8⟩,A7⟩:=hB;obtain⟨v,hq,hK⟩:=h;exact zaz h0 (Region.noSelect_spec hs) hw l.length listed a w (hz st (by omega)) (hF (by omega)) (Region.free_spec h0 hf) (by simpa using hr) hq
     (yz hs l bs (k+1) _ _ w A3 A2 (A1 (by
      have:k∈Region.ready md ops listed:=by simpa using hr
      have A0:=(mem_ready.1 this).1;rcases Nat.lt_or_ge k listed.size with h'|h'
      ·exact h'
      ·simp[Array.getElem?_eq_none h'] at A0)) (fun A6=>hF (by omega)) A7 hK)
theorem ed {id:Nat}{Q':Exit→Act→World→Prop}{a:Act}{w:World}{l:List Oper}(Fact:World→Prop)(st:Nat)(bs:List Bool)(hm:P.follows .mixedOrders=true)(A0:Region.noSelect l.toArray=true)(hB:ol .any l.toArray st bs 0 (Array.replicate l.toArray.size false)=true)
  (hF:Fact w.drew) (h:gi P l.toArray Fact st (fun a' w'=>Q' .normal a' w') 0 bs l a w.drew):(Code.region id l.toArray true).wp P Q' a w:=by
 have:=yz (md:=.any) (Q:=fun a' w'=>Q' .normal a' w') A0 l bs 0 (Array.replicate l.toArray.size false) a w.drew (by simp) (fun j _=>getD_replicate_false _ _) (fun j hj=>absurd hj (Nat.not_lt_zero j)) (fun _=>hF) hB h;exact wp_region_any hm (yx (fun a w h=>h) _ _ _ _ (by simpa using this))
theorem gy {k:Nat}{bs:List Bool}{a:Act}{w:World}(h:Q a w):gi P ops Fact st Q k bs [] a w:=by cases bs with|nil=>exact h|cons b _=>cases b<;>exact h
theorem dn {k:Nat}{bs:List Bool}{o:Oper}{rest:List Oper}{a:Act}{w:World}{v:Value}(hw:Region.wanted o (yielded ops a.tmps)=true)(hv:∀ w,Fact w→(execOp a.eval o).run P w=.ok (.value v) w)
  (h:gi P ops Fact st Q (k+1) bs rest (a.put o.dst v) w):gi P ops Fact st Q k (false::bs) (o::rest) a w:=
 ⟨v,fun w hF=>.inl ⟨hw,.inl ⟨v,w,hv w hF,rfl,rfl⟩⟩,h⟩
theorem jk {k:Nat}{bs:List Bool}{o:Oper}{rest:List Oper}{a:Act}{w:World}(f:FuncId)(args:Array Value)(R:Value→World→Prop)(hw:Region.wanted o (yielded ops a.tmps)=true)(hr:(execOp a.eval o).run P w=.ok (.enter f args) w)
  (hc:Calls P f args w (fun e w'=>∃ v,e=.returned v∧R v w')) (h:∀ v w',R v w'→(st≤k∨Fact w')∧gi P ops Fact st Q (k+1) bs rest (a.put o.dst v) w'):gi P ops Fact st Q k (true::bs) (o::rest) a w:=
 ActsR.mono (.inl ⟨hw,.inr (.inr ⟨f,args,hr,hc⟩)⟩) h
theorem dl {k:Nat}{bs:List Bool}{o:Oper}{rest:List Oper}{a:Act}{w w':World}{v:Value}(hw:Region.wanted o (yielded ops a.tmps)=true)(hr:(execOp a.eval o).run P w=.ok (.value v) w')(hF:st≤k∨Fact w')
  (h:gi P ops Fact st Q (k+1) bs rest (a.put o.dst v) w'):gi P ops Fact st Q k (true::bs) (o::rest) a w:=
 .inl ⟨hw,.inl ⟨v,w',hr,hF,h⟩⟩
theorem jh {k:Nat}{bs:List Bool}{o:Oper}{rest:List Oper}{a:Act}{w w':World}(hw:Region.wanted o (yielded ops a.tmps)=true)(hr:(execOp a.eval o).run P w=.ok .skip w')(hF:st≤k∨Fact w')
  (h:gi P ops Fact st Q (k+1) bs rest (a.put o.dst undef) w'):gi P ops Fact st Q k (true::bs) (o::rest) a w:=
 .inl ⟨hw,.inr (.inl ⟨w',hr,hF,h⟩)⟩
end
end
section
open Go.RowKit
section
variable {P:Program}{ops:Array Oper}{md:Region.Mode}{Fact:World→Prop}{Q:Act→World→Prop}
def td (P:Program)(l:List Oper)(Fact:World→Prop)(Q:Act→World→Prop):List (Nat × Bool)→Act→World→Prop
 | [],a,w=>Q a w
 |(i,true)::r,a,w=>∃ o,l[i]? = some o∧ActsR P l.toArray o a w (fun v w'=>Fact w'∧td P l Fact Q r (a.put o.dst v) w')
 |(i,false)::r,a,w=>∃ o v,l[i]? = some o∧QuietC P l.toArray Fact o v a∧td P l Fact Q r (a.put o.dst v) w
def zn (md:Region.Mode)(ops:Array Oper):List (Nat × Bool)→Array Bool→Bool
 | [],listed=>(Region.ready md ops listed).isEmpty
 |(i,true)::r,listed=>Region.ready md ops listed == [i] && zn md ops r (listed.setIfInBounds i true)
 |(i,false)::r,listed=>(Region.ready md ops listed).contains i && Region.free md ops listed i && zn md ops r (listed.setIfInBounds i true)
theorem yy {l:List Oper}(hs:Region.noSelect l.toArray=true):∀(r:List (Nat × Bool)) (listed:Array Bool) (a:Act) (w:World),listed.getD l.length false=false→Fact w→zn md l.toArray r listed=true→td P l Fact Q r a w →
  sa P md l.toArray Fact l.length Q r.length listed a w
 | [],listed,a,w,_,_,hB,h=>by
  simp only[zn] at hB;exact⟨by simpa using hB,h⟩
 |(i,true)::r,listed,a,w,hz,hF,hB,h=>by
  simp only[zn,Bool.and_eq_true,beq_iff_eq] at hB;obtain⟨o,ho,h⟩:=h;have A0:=(List.getElem?_eq_some_iff.1 ho).1;refine⟨fun h1=>(by rw[h1] at hB; cases hB.1),fun j hj=>?_⟩;rw[hB.1,List.mem_singleton] at hj;subst hj;refine⟨o,by simpa using ho,ActsR.mono h ?_⟩;rintro v w' ⟨hc,hK⟩;exact⟨.inr hc,yy hs r _ _ w' (by rw[getD_set_ne false (by omega)]; exact hz) hc hB.2 hK⟩
 |(i,false)::r,listed,a,w,hz,hF,hB,h=>by
  simp only[zn,Bool.and_eq_true] at hB;obtain⟨⟨hr,hf⟩,A1⟩:=hB;obtain⟨o,v,ho,hq,hK⟩:=h;have A0:=(List.getElem?_eq_some_iff.1 ho).1;have h0:l.toArray[i]? = some o:=by simpa using ho
  exact zaz h0 (Region.noSelect_spec hs) (by unfold zba; rw[show l.toArray[l.length]? = none by simp]) r.length listed a w hz hF (Region.free_spec h0 hf) (by simpa using hr) hq
   (yy hs r _ _ w (by rw[getD_set_ne false (by omega)]; exact hz) hF A1 hK)
theorem zas {id:Nat}{Q':Exit→Act→World→Prop}{a:Act}{w:World}{l:List Oper}(Fact:World→Prop)(r:List (Nat × Bool))(hm:P.follows .mixedOrders=true)(A0:Region.noSelect l.toArray=true)(hB:(r.length == l.length && zn .any l.toArray r (Array.replicate l.toArray.size false))=true)
  (hF:Fact w.drew) (h:td P l Fact (fun a' w'=>Q' .normal a' w') r a w.drew):(Code.region id l.toArray true).wp P Q' a w:=by
 rw[Bool.and_eq_true,beq_iff_eq] at hB
 have:=yy (md:=.any) (Q:=fun a' w'=>Q' .normal a' w') A0 r (Array.replicate l.toArray.size false) a w.drew (by simp) hF hB.2 h;rw[hB.1] at this;exact wp_region_any hm (yx (fun a w h=>h) _ _ _ _ (by simpa using this))
theorem zgg {l:List Oper}{a:Act}{w:World}(h:Q a w):td P l Fact Q [] a w:=h
theorem zcv {l:List Oper}{i:Nat}{r:List (Nat × Bool)}{o:Oper}{a:Act}{w:World}{v:Value}(ho:l[i]? = some o)(hw:Region.wanted o (yielded l.toArray a.tmps)=true)(hv:∀ w,Fact w→(execOp a.eval o).run P w=.ok (.value v) w)
  (h:td P l Fact Q r (a.put o.dst v) w):td P l Fact Q ((i,false)::r) a w:=
 ⟨o,v,ho,fun w hF=>.inl ⟨hw,.inl ⟨v,w,hv w hF,rfl,rfl⟩⟩,h⟩
theorem tc {l:List Oper}{i:Nat}{r:List (Nat × Bool)}{o:Oper}{a:Act}{w:World}(f:FuncId)(args:Array Value)(R:Value→World→Prop)(ho:l[i]? = some o)(hw:Region.wanted o (yielded l.toArray a.tmps)=true)(hr:(execOp a.eval o).run P w=.ok (.enter f args) w)
  (hc:Calls P f args w (fun e w'=>∃ v,e=.returned v∧R v w')) (h:∀ v w',R v w'→Fact w'∧td P l Fact Q r (a.put o.dst v) w'):td P l Fact Q ((i,true)::r) a w:=
 ⟨o,ho,ActsR.mono (.inl ⟨hw,.inr (.inr ⟨f,args,hr,hc⟩)⟩) h⟩
end
end
section
open Go.RowKit
section
variable {P:Program}{ops:Array Oper}{md:Region.Mode}{Sd:Bool→World→Prop}
def zwk (P:Program)(ops:Array Oper)(Sd:Bool→World→Prop)(o:Oper)(a:Act):Prop:=
 Region.wanted o (yielded ops a.tmps)=true∧∀ w,Sd false w→∃ w',(execOp a.eval o).run P w=.ok .skip w'∧Sd true w'
def YQ (P:Program)(ops:Array Oper)(Sd:Bool→World→Prop)(o:Oper)(v:Value)(a:Act):Prop:=
 (o.dst=none∧zwk P ops Sd o a)∨(o.dst≠none∧∀ d,YieldsS P ops (Sd d) o v a)
theorem YQ.of_same {o:Oper}{v:Value}{a a':Act}(hy:YQ P ops Sd o v a)(he:execOp a'.eval o=execOp a.eval o)
  (hw:Region.wanted o (yielded ops a'.tmps)=Region.wanted o (yielded ops a.tmps)):YQ P ops Sd o v a':=by
 rcases hy with⟨h1,h2⟩|⟨h1,h2⟩
 ·refine .inl ⟨h1,?_⟩;unfold zwk at *;rw[he,hw];exact h2
 ·exact .inr ⟨h1,fun d=>(h2 d).of_same he hw⟩
def stQ (P:Program)(ops:Array Oper)(Sd:Bool→World→Prop)(i:Nat)(K:Act→Prop)(a:Act):Prop:=
 match ops[i]? with
 |none=>K a
 |some o=>∃ v,YQ P ops Sd o v a∧K (a.put o.dst v)
theorem zte {i:Nat}{a:Act}{K K':Act→Prop}(h:∀ a,K a→K' a)(hh:stQ P ops Sd i K a):stQ P ops Sd i K' a:=by
 unfold stQ at *;split
 ·exact h _ (by simpa [*] using hh)
 ·rename_i o ho;simp only[ho] at hh;obtain⟨v,h1,h2⟩:=hh;exact⟨v,h1,h _ h2⟩
def zax (P:Program)(md:Region.Mode)(ops:Array Oper)(Sd:Bool→World→Prop)(Q:Act→Prop):Nat→Array Bool→Act→Prop
 |0,listed,a=>Region.ready md ops listed=[]∧Q a
 |fuel+1,listed,a=>
  (Region.ready md ops listed=[]→Q a) ∧
  ∀ i∈Region.ready md ops listed,stQ P ops Sd i (zax P md ops Sd Q fuel (listed.setIfInBounds i true)) a
def sx (md:Region.Mode)(ops:Array Oper):Bool:=(List.range ops.size).all fun i=>match ops[i]? with|none=>true|some o=>o.after.all fun e=>!Region.binds md e || decide (e.on<i)
theorem zqg (h:sx md ops=true):∀ i,i<ops.size→∃ o,ops[i]? = some o∧∀ e∈o.after,Region.binds md e=true→e.on<i:=by
 intro i hi;have h1:=List.all_eq_true.1 h i (List.mem_range.2 hi);rw[Array.getElem?_eq_getElem hi] at h1;refine⟨_,Array.getElem?_eq_getElem hi,fun e he hb=>?_⟩;have h2:=Array.all_eq_true_iff_forall_mem.1 h1 e he;rw[hb] at h2;simpa using h2
def zuc (ops:Array Oper)(i₀:Nat):Bool:=(List.range ops.size).all fun i=>match ops[i]? with|none=>true|some o=>o.dst.isNone == (i == i₀)
theorem zgt {i₀:Nat}(h:zuc ops i₀=true){i:Nat}{o:Oper}(ho:ops[i]? = some o):o.dst=none↔i=i₀:=by
 have hi:=(Array.getElem?_eq_some_iff.1 ho).1;have h1:=List.all_eq_true.1 h i (List.mem_range.2 hi);rw[ho] at h1;have h2:o.dst.isNone=(i == i₀):=by simpa using h1
 rw[←Option.isNone_iff_eq_none,h2];simp
theorem zmw {i₀:Nat}{Q:Act→Prop}{Q':Exit→Act→World→Prop}(A1:zuc ops i₀=true)(A2:sx md ops=true)(hi₀:i₀<ops.size)(hQ:∀ a w,Sd true w→Q a→Q' .normal a w):
  ∀(fuel:Nat) (listed:Array Bool) (a:Act) (w:World),listed.size=ops.size→Sd (listed.getD i₀ false) w→zax P md ops Sd Q fuel listed a→wpAny P md ops Q' fuel listed a w:=by
 have fin:∀(listed:Array Bool) (w:World),listed.size=ops.size→Sd (listed.getD i₀ false) w→Region.ready md ops listed=[]→Sd true w:=by
  intro listed w A0 hS hr;cases hl:listed.getD i₀ false with
  |true=>rw[hl] at hS; exact hS
  |false=>
   obtain⟨j,hj⟩:=znc (m:=ops.size) (md:=md) A0 (zqg A2) i₀ hi₀ hl;rw[hr] at hj;cases hj
 intro fuel;induction fuel with
 |zero=>
  intro listed a w A0 hS h;exact⟨h.1,hQ _ _ (fin _ _ A0 hS h.1) h.2⟩
 |succ fuel ih=>
  intro listed a w A0 hS h;refine⟨fun h0=>hQ _ _ (fin _ _ A0 hS h0) (h.1 h0),fun i hi=>?_⟩;have h2:=h.2 i hi;obtain⟨A4,o,ho,A7⟩:=mem_ready.1 hi;have A6:i<listed.size:=by
   rcases Nat.lt_or_ge i listed.size with h'|h'
   ·exact h'
   ·simp[Array.getElem?_eq_none h'] at A4
  unfold stQ at h2;simp only[ho] at h2;obtain⟨v,hy,hk⟩:=h2;rcases hy with⟨hd,hw,hp⟩|⟨hd,hy⟩
  ·have e:i=i₀:=(zgt A1 ho).1 hd;subst e;have A8:Sd false w:=by rw[getD_both A4] at hS; exact hS
   obtain⟨w',hr,A3⟩:=hp w A8;unfold Go.wpOp;simp only[ho,hw,if_true,Oper.wp,hr,Oper.upon];rw[hd] at hk;refine .inl ?_;rw[hd];exact ih _ _ _ (by simpa using A0) (by rw[show(listed.setIfInBounds i true).getD i false=true by simp[A6]]; exact A3) hk
  ·have A5:i≠i₀:=fun e=>hd ((zgt A1 ho).2 e);refine(hy _).wpOp ho hS (fun w' A3=>ih _ _ _ (by simpa using A0) ?_ hk);rw[getD_set_ne false A5];exact A3
theorem zwv {j:Nat}{oi oj:Oper}{v:Value}(hj:ops[j]? = some oj)(A2:oi.apart ops oj=true)
  (A1:∀ cs b,oi.op≠.select cs b) (A0:∀ cs b,oj.op≠.select cs b) {K:Act→Prop} {a:Act}
  (hy:YQ P ops Sd oi v a) (h:stQ P ops Sd j K (a.put oi.dst v)):
  stQ P ops Sd j (fun a'=>YQ P ops Sd oi v a'∧K (a'.put oi.dst v)) a:=by
 obtain⟨h1,h2,h3⟩:=Oper.apart_spec A2;have keep:∀(a:Act),YQ P ops Sd oi v a→∀ u,YQ P ops Sd oi v (a.put oj.dst u):=fun a hy u=>
  hy.of_same (execOp_put oi A1 a oj.dst u h3) (wanted_put oi a oj.dst u h3)
 unfold stQ at *;simp only[hj] at *;obtain⟨u,hu,hk⟩:=h;refine⟨u,hu.of_same (execOp_put oj A0 a oi.dst v h1).symm (wanted_put oj a oi.dst v h1).symm,keep a hy u,?_⟩;rw[←Act.put_comm a v u h2];exact hk
theorem zie {Q:Act→Prop}{i:Nat}{oi:Oper}{v:Value}(hi:ops[i]? = some oi)(A3:∀(j:Nat) (o:Oper) cs b,ops[j]? = some o→o.op≠.select cs b):
  ∀(fuel:Nat) (listed:Array Bool) (a:Act),
   (∀ j oj,ops[j]? = some oj→j≠i→listed.getD j true=false→(∀ e∈oj.after,Region.binds md e=true→e.on≠i)→oi.apart ops oj=true) →
   i∈Region.ready md ops listed→YQ P ops Sd oi v a →
   zax P md ops Sd Q fuel (listed.setIfInBounds i true) (a.put oi.dst v)→zax P md ops Sd Q (fuel+1) listed a:=by
 intro fuel;have A9:∀ {a:Act} {K:Act→Prop},YQ P ops Sd oi v a→K (a.put oi.dst v)→stQ P ops Sd i K a:=by
  intro a K hy h;unfold stQ;simp only[hi];exact⟨v,hy,h⟩
 induction fuel with
 |zero=>
  intro listed a _ hr hy H;refine⟨fun h=>(by rw[h] at hr; cases hr),fun j hj=>?_⟩;by_cases A0:j=i
  ·subst A0; exact A9 hy H
  ·have:=ready_mono hj A0;rw[H.1] at this;cases this
 |succ fuel ih=>
  intro listed a A1 hr hy H;refine⟨fun h=>(by rw[h] at hr; cases hr),fun j hj=>?_⟩;by_cases A0:j=i
  ·subst A0; exact A9 hy H
  ·have h1:=H.2 j (ready_mono hj A0);obtain⟨A4,oj,A5,A7⟩:=mem_ready.1 hj;have A6:∀ e∈oj.after,Region.binds md e=true→e.on≠i:=fun e he hb B3=>by
    have h1:=A7 e he hb;have h0:=(mem_ready.1 hr).1;rw[B3] at h1;rcases Nat.lt_or_ge i listed.size with h'|h'
    ·simp[h'] at h0 h1; rw[h0] at h1; cases h1
    ·simp[Array.getElem?_eq_none h'] at h1
   have h2:=zwv A5 (A1 j oj A5 A0 A4 A6) (fun cs b=>A3 i oi cs b hi) (fun cs b=>A3 j oj cs b A5) hy h1;have A2:∀ k ok,ops[k]? = some ok→k≠i→(listed.setIfInBounds j true).getD k true=false →
     (∀ e∈ok.after,Region.binds md e=true→e.on≠i)→oi.apart ops ok=true:=fun k ok hk B2 A8 B1=>by
    refine A1 k ok hk B2 ?_ B1;by_cases B0:j=k
    ·subst B0; exact A4
    ·rw[getD_set_ne true B0] at A8; exact A8
   refine zte (fun a' h3=>ih (listed.setIfInBounds j true) a' A2 (ready_mono hr (Ne.symm A0)) h3.1 ?_) h2;rw[Array.setIfInBounds_comm _ _ A0];exact h3.2
def ke (P:Program)(ops:Array Oper)(Sd:Bool→World→Prop)(Q:Act→Prop):List Oper→Act→Prop
 | [],a=>Q a
 |o::rest,a=>∃ v,YQ P ops Sd o v a∧ke P ops Sd Q rest (a.put o.dst v)
theorem zea {Q:Act→Prop}(hs:Region.noSelect ops=true):∀(l:List Oper) (k:Nat) (listed:Array Bool) (a:Act),(∀ j,l[j]? = ops[k+j]?) →
  Region.lexFrom md ops l.length k listed=true→ke P ops Sd Q l a→zax P md ops Sd Q l.length listed a
 | [],_,_,_,_,hB,h=>⟨by simpa [Region.lexFrom] using hB,h⟩
 |o::l,k,listed,a,hl,hB,h=>by
  have h0:ops[k]? = some o:=by simpa using (hl 0).symm
  simp only[List.length_cons,Region.lexFrom,Bool.and_eq_true] at hB;obtain⟨⟨hr,hf⟩,A0⟩:=hB;obtain⟨v,hy,hK⟩:=h;exact zie h0 (Region.noSelect_spec hs) l.length listed a (Region.free_spec h0 hf) (by simpa using hr) hy
   (zea hs l (k+1) _ _ (fun j=>by have:=hl (j+1); simpa [Nat.add_assoc,Nat.add_comm 1 j] using this) A0 hK)
theorem fr {id:Nat}{Q:Exit→Act→World→Prop}{a:Act}{w:World}{l:List Oper}(Sd:Bool→World→Prop)(i₀:Nat)(hm:P.follows .mixedOrders=true)(hB:Region.lexB .any l.toArray=true)(A0:zuc l.toArray i₀=true)(A1:sx .any l.toArray=true)(hi:i₀<l.toArray.size)
  (hS:Sd false w.drew) (h:ke P l.toArray Sd (fun a'=>∀ w',Sd true w'→Q .normal a' w') l a):(Code.region id l.toArray true).wp P Q a w:=by
 simp only[Region.lexB,Bool.and_eq_true] at hB
 have:=zea (md:=.any) hB.1 l 0 (Array.replicate l.toArray.size false) a (by simp) (by simpa using hB.2) h;refine wp_region_any hm (zmw (Sd:=Sd) (Q:=fun a'=>∀ w',Sd true w'→Q .normal a' w') A0 A1 hi (fun a w hS h=>h w hS) _ _ _ _ (by simp) ?_ (by simpa using this));rw[getD_replicate_false];exact hS
theorem pq {Q:Act→Prop}{a:Act}(h:Q a):ke P ops Sd Q [] a:=h
theorem mw {Q:Act→Prop}{a:Act}{o:Oper}{rest:List Oper}(hd:o.dst≠none)(hw:Region.wanted o (yielded ops a.tmps)=false)(h:ke P ops Sd Q rest (a.put o.dst undef)):ke P ops Sd Q (o::rest) a:=
 ⟨undef,.inr ⟨hd,fun _=>.inr ⟨hw,rfl⟩⟩,h⟩
theorem pp {Q:Act→Prop}{a:Act}{o:Oper}{rest:List Oper}{v:Value}(hd:o.dst≠none)(hw:Region.wanted o (yielded ops a.tmps)=true)(hv:∀ d w,Sd d w→(execOp a.eval o).run P w=.ok (.value v) w)(h:ke P ops Sd Q rest (a.put o.dst v)):ke P ops Sd Q (o::rest) a:=
 ⟨v,.inr ⟨hd,fun d=>.inl ⟨hw,fun w hS=>.inl (hv d w hS)⟩⟩,h⟩
theorem yu {Q:Act→Prop}{a:Act}{o:Oper}{rest:List Oper}{v:Value}(f:FuncId)(args:Array Value)(hd:o.dst≠none)(hw:Region.wanted o (yielded ops a.tmps)=true)(hr:∀ d w,Sd d w→(execOp a.eval o).run P w=.ok (.enter f args) w)
  (hc:∀ d w,Sd d w→Calls P f args w (fun e w''=>e=.returned v∧Sd d w'')) (h:ke P ops Sd Q rest (a.put o.dst v)):ke P ops Sd Q (o::rest) a:=
 ⟨v,.inr ⟨hd,fun d=>.inl ⟨hw,fun w hS=>.inr (.inr ⟨f,args,hr d w hS,hc d w hS⟩)⟩⟩,h⟩
theorem lh {Q:Act→Prop}{a:Act}{o:Oper}{rest:List Oper}(hd:o.dst=none)(hw:Region.wanted o (yielded ops a.tmps)=true)(hv:∀ w,Sd false w→∃ w',(execOp a.eval o).run P w=.ok .skip w'∧Sd true w')(h:ke P ops Sd Q rest a):ke P ops Sd Q (o::rest) a:=
 ⟨undef,.inl ⟨hd,hw,hv⟩,by rw[hd]; exact h⟩
end
end
section
open Go.RowKit
set_option maxRecDepth 100000
section
variable {P:Program}
theorem zdu {o:Oper}{a:Act}(w:World)(s x:Operand)(t:TypeId)(ho:o.op=.call { callee:=.builtin .append,args:=#[s,x],argTypes:=#[t,t] })
  (base:Nat) (e:TypeId) (i:TypeInfo) (z:Value) (size bytes:Nat) (ht:P.underlying t=some (.slice e)) (hi:P.info? e=some i) (hz:i.zero=some z)
  (A1:i.size=size) (A7:i.bytes=bytes) (A5:z.cells.size=size) (A6:0<size)
  (v:Value) (n:Nat) (xs:List Value) (hs:a.eval s=v) (A4:w.ownsRow base e size v n xs)
  (ad:Addr) (m c:Nat) (news:List Value) (hx:a.eval x=.slice (some ad) m c) (hl:news.length=m * size) (A2:∀ j u,news[j]? = some u→w.cell? (ad.add j)=some u) (h1:∀ u∈news,u.oneCell'=true)
  (hm:0<m) (A8:n+m≤maxLen) (A0:(n+m) * bytes≤140737488355328) (A3:base≤w.heap.size):
  ∃ g cap w',(execOp a.eval o).run P w=.ok (.value (.slice (some ⟨g,0,none⟩) (n+m) cap)) w' ∧
   w'.ownsRow base e size (.slice (some ⟨g,0,none⟩) (n+m) cap) (n+m) (xs++news)∧w.grownBy w' v.ownBlock∧(v.ownBlock=some g∨g=w.heap.size)∧g<w'.heap.size:=by
 obtain⟨g,cap,w',hr,h2,h3,h4,h5⟩:=run_append_lies (P:=P) w t o.type base e i z size bytes ht hi hz A1 A7 A5 A6 v n xs A4 ad m c news hl A2 h1 hm A8 A0 A3 w.heap.size rfl;refine⟨g,cap,w',?_,h2,h3,h4,h5⟩;unfold execOp;simp only[ho,resolve,invoke,builtin,Sem.run_bind,Sem.run_pure,Result.andThen_ok,List.map_toArray,List.map_cons,List.map_nil,hs,hx,hr]
theorem ky {ops:Array Oper}{Fact:World→Prop}{st:Nat}{Q:Act→World→Prop}{k:Nat}{bs:List Bool}{o:Oper}{rest:List Oper}{a:Act}{w:World}(s x:Operand)(t:TypeId)(hw:Region.wanted o (yielded ops a.tmps)=true)
  (ho:o.op=.call { callee:=.builtin .append,args:=#[s,x],argTypes:=#[t,t] })
  (base:Nat) (e:TypeId) (i:TypeInfo) (z:Value) (size bytes:Nat) (ht:P.underlying t=some (.slice e)) (hi:P.info? e=some i) (hz:i.zero=some z)
  (A1:i.size=size) (A7:i.bytes=bytes) (A5:z.cells.size=size) (A6:0<size)
  (v:Value) (n:Nat) (xs:List Value) (hs:a.eval s=v) (A4:w.ownsRow base e size v n xs)
  (ad:Addr) (m c:Nat) (news:List Value) (hx:a.eval x=.slice (some ad) m c) (hl:news.length=m * size) (A2:∀ j u,news[j]? = some u→w.cell? (ad.add j)=some u) (h1:∀ u∈news,u.oneCell'=true)
  (hm:0<m) (A8:n+m≤maxLen) (A0:(n+m) * bytes≤140737488355328) (A3:base≤w.heap.size)
  (h:∀ g cap w',w'.ownsRow base e size (.slice (some ⟨g,0,none⟩) (n+m) cap) (n+m) (xs++news)→w.grownBy w' v.ownBlock→(v.ownBlock=some g∨g=w.heap.size)→g<w'.heap.size →
   (st≤k∨Fact w')∧gi P ops Fact st Q (k+1) bs rest (a.put o.dst (.slice (some ⟨g,0,none⟩) (n+m) cap)) w'):gi P ops Fact st Q k (true::bs) (o::rest) a w:=by
 obtain⟨g,cap,w',hr,h2,h3,h4,h5⟩:=zdu w s x t ho base e i z size bytes ht hi hz A1 A7 A5 A6 v n xs hs A4 ad m c news hx hl A2 h1 hm A8 A0 A3;obtain⟨h6,h7⟩:=h g cap w' h2 h3 h4 h5;exact dl hw hr h6 h7
end
end
end Go.Proofs.YtanlmbbalamgkaaGreatDoor
