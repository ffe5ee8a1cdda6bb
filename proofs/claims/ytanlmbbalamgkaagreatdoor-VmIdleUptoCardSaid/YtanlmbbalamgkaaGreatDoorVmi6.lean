/- Proved: lemmas and contracts of the functions that the law reaches, part 6 of 36: KeepRegion, KeepChain, KeepOrd, KeepStore, ChainApp. Conditions: as each states. -/
import Derived.OrdersHeld
import Derived.Deep.AppendLies
import Derived.Test.YtanlmbbalamgkaaGreatDoorVmi3
import Derived.Test.YtanlmbbalamgkaaGreatDoorVmi5
namespace Go.Proofs.YtanlmbbalamgkaaGreatDoor
set_option linter.unusedVariables false
set_option linter.unusedSimpArgs false
section
open Go.RowKit
section
variable {P:Program}{ops:Array Oper}{md:Region.Mode}{S:World→Prop}
def YieldsS (P:Program)(ops:Array Oper)(S:World→Prop)(o:Oper)(v:Value)(a:Act):Prop:=
 (Region.wanted o (yielded ops a.tmps)=true∧∀ w,S w→((execOp a.eval o).run P w=.ok (.value v) w∨(∃ w',(execOp a.eval o).run P w=.ok (.value v) w'∧S w') ∨
  ∃ f args,(execOp a.eval o).run P w=.ok (.enter f args) w∧Calls P f args w (fun e w''=>e=.returned v∧S w''))) ∨
 (Region.wanted o (yielded ops a.tmps)=false∧v=undef)
theorem YieldsS.of_same {o:Oper}{v:Value}{a a':Act}(hy:YieldsS P ops S o v a)(he:execOp a'.eval o=execOp a.eval o)
  (hw:Region.wanted o (yielded ops a'.tmps)=Region.wanted o (yielded ops a.tmps)):YieldsS P ops S o v a':=by
 unfold YieldsS at *
 rw[he,hw]
 exact hy
theorem YieldsS.wpOp {i:Nat}{o:Oper}{v:Value}{a:Act}{Q:Exit→Act→World→Prop}(hi:ops[i]? = some o)(hy:YieldsS P ops S o v a){K:Act→World→Prop}{w:World}(hS:S w)(h:∀ w',S w'→K (a.put o.dst v) w'):wpOp P ops Q i K a w:=by
 unfold Go.wpOp
 simp only[hi]
 rcases hy with⟨hw,hv⟩|⟨hw,rfl⟩
 ·rcases hv w hS with hv|⟨w',hv,hS'⟩|⟨f,args,hv,hc⟩
  ·simp only[hw,if_true,Oper.wp,hv,Oper.upon]; exact .inl (h w hS)
  ·simp only[hw,if_true,Oper.wp,hv,Oper.upon]; exact .inl (h w' hS')
  ·simp only[hw,if_true,Oper.wp,hv,Oper.upon]
   exact .inl (hc.mono fun e w'' ⟨he,hs⟩=>by subst he; exact h w'' hs)
 ·simp only[hw,Bool.false_eq_true,if_false]; exact h w hS
def stK (P:Program)(ops:Array Oper)(S:World→Prop)(i:Nat)(K:Act→Prop)(a:Act):Prop:=
 match ops[i]? with
 |none=>K a
 |some o=>∃ v,YieldsS P ops S o v a∧K (a.put o.dst v)
theorem zsl {i:Nat}{a:Act}{K K':Act→Prop}(h:∀ a,K a→K' a)(hh:stK P ops S i K a):stK P ops S i K' a:=by
 unfold stK at *
 split
 ·exact h _ (by simpa [*] using hh)
 ·rename_i o ho
  simp only[ho] at hh
  obtain⟨v,h1,h2⟩:=hh
  exact⟨v,h1,h _ h2⟩
def zlo (P:Program)(md:Region.Mode)(ops:Array Oper)(S:World→Prop)(Q:Act→Prop):Nat→Array Bool→Act→Prop
 |0,listed,a=>Region.ready md ops listed=[]∧Q a
 |fuel+1,listed,a=>
  (Region.ready md ops listed=[]→Q a) ∧
  ∀ i∈Region.ready md ops listed,stK P ops S i (zlo P md ops S Q fuel (listed.setIfInBounds i true)) a
theorem zkf {Q:Act→Prop}{Q':Exit→Act→World→Prop}(hQ:∀ a w,S w→Q a→Q' .normal a w):∀(fuel:Nat) (listed:Array Bool) (a:Act) (w:World),S w →
  zlo P md ops S Q fuel listed a→wpAny P md ops Q' fuel listed a w
 |0,_,_,w,hS,h=>⟨h.1,hQ _ _ hS h.2⟩
 |fuel+1,_,a,w,hS,h=>⟨fun h0=>hQ _ _ hS (h.1 h0),fun i hi=>by
   have h2:=h.2 i hi
   unfold stK at h2
   cases ho:ops[i]? with
   |none=>
    simp only[ho] at h2
    unfold Go.wpOp
    simp only[ho]
    exact zkf hQ fuel _ _ _ hS h2
   |some o=>
    simp only[ho] at h2
    obtain⟨v,hy,hk⟩:=h2
    exact hy.wpOp ho hS (fun w' hS'=>zkf hQ fuel _ _ _ hS' hk)⟩
theorem zvr {j:Nat}{oi oj:Oper}{v:Value}(hj:ops[j]? = some oj)(hap:oi.apart ops oj=true)
  (hsi:∀ cs b,oi.op≠.select cs b) (hsj:∀ cs b,oj.op≠.select cs b) {K:Act→Prop} {a:Act}
  (hy:YieldsS P ops S oi v a) (h:stK P ops S j K (a.put oi.dst v)):
  stK P ops S j (fun a'=>YieldsS P ops S oi v a'∧K (a'.put oi.dst v)) a:=by
 obtain⟨h1,h2,h3⟩:=Oper.apart_spec hap
 have keep:∀(a:Act),YieldsS P ops S oi v a→∀ u,YieldsS P ops S oi v (a.put oj.dst u):=fun a hy u=>
  hy.of_same (execOp_put oi hsi a oj.dst u h3) (wanted_put oi a oj.dst u h3)
 unfold stK at *
 simp only[hj] at *
 obtain⟨u,hu,hk⟩:=h
 refine⟨u,hu.of_same (execOp_put oj hsj a oi.dst v h1).symm (wanted_put oj a oi.dst v h1).symm,keep a hy u,?_⟩
 rw[←Act.put_comm a v u h2]
 exact hk
theorem zse {Q:Act→Prop}{i:Nat}{oi:Oper}{v:Value}(hi:ops[i]? = some oi)(hsel:∀(j:Nat) (o:Oper) cs b,ops[j]? = some o→o.op≠.select cs b):
  ∀(fuel:Nat) (listed:Array Bool) (a:Act),
   (∀ j oj,ops[j]? = some oj→j≠i→listed.getD j true=false→(∀ e∈oj.after,Region.binds md e=true→e.on≠i)→oi.apart ops oj=true) →
   i∈Region.ready md ops listed→YieldsS P ops S oi v a →
   zlo P md ops S Q fuel (listed.setIfInBounds i true) (a.put oi.dst v)→zlo P md ops S Q (fuel+1) listed a:=by
 intro fuel
 have hst:∀ {a:Act} {K:Act→Prop},YieldsS P ops S oi v a→K (a.put oi.dst v)→stK P ops S i K a:=by
  intro a K hy h
  unfold stK
  simp only[hi]
  exact⟨v,hy,h⟩
 induction fuel with
 |zero=>
  intro listed a _ hr hy H
  refine⟨fun h=>(by rw[h] at hr; cases hr),fun j hj=>?_⟩
  by_cases hji:j=i
  ·subst hji; exact hst hy H
  ·have:=ready_mono hj hji
   rw[H.1] at this
   cases this
 |succ fuel ih=>
  intro listed a hfree hr hy H
  refine⟨fun h=>(by rw[h] at hr; cases hr),fun j hj=>?_⟩
  by_cases hji:j=i
  ·subst hji; exact hst hy H
  ·have h1:=H.2 j (ready_mono hj hji)
   obtain⟨hjun,oj,hoj,hall⟩:=mem_ready.1 hj
   have hnot:∀ e∈oj.after,Region.binds md e=true→e.on≠i:=fun e he hb heq=>by
    have h1:=hall e he hb
    have h0:=(mem_ready.1 hr).1
    rw[heq] at h1
    rcases Nat.lt_or_ge i listed.size with h'|h'
    ·simp[h'] at h0 h1; rw[h0] at h1; cases h1
    ·simp[Array.getElem?_eq_none h'] at h1
   have h2:=zvr hoj (hfree j oj hoj hji hjun hnot) (fun cs b=>hsel i oi cs b hi) (fun cs b=>hsel j oj cs b hoj) hy h1
   have hfree':∀ k ok,ops[k]? = some ok→k≠i→(listed.setIfInBounds j true).getD k true=false →
     (∀ e∈ok.after,Region.binds md e=true→e.on≠i)→oi.apart ops ok=true:=fun k ok hk hki hun hno=>by
    refine hfree k ok hk hki ?_ hno
    by_cases hjk:j=k
    ·subst hjk; exact hjun
    ·rw[getD_set_ne true hjk] at hun; exact hun
   refine zsl (fun a' h3=>ih (listed.setIfInBounds j true) a' hfree' (ready_mono hr (Ne.symm hji)) h3.1 ?_) h2
   rw[Array.setIfInBounds_comm _ _ hji]
   exact h3.2
def zep (P:Program)(ops:Array Oper)(S:World→Prop)(Q:Act→Prop):List Oper→Act→Prop
 | [],a=>Q a
 |o::rest,a=>∃ v,YieldsS P ops S o v a∧zep P ops S Q rest (a.put o.dst v)
theorem zoh {Q:Act→Prop}(hs:Region.noSelect ops=true):∀(l:List Oper) (k:Nat) (listed:Array Bool) (a:Act),(∀ j,l[j]? = ops[k+j]?) →
  Region.lexFrom md ops l.length k listed=true→zep P ops S Q l a→zlo P md ops S Q l.length listed a
 | [],_,_,_,_,hB,h=>⟨by simpa [Region.lexFrom] using hB,h⟩
 |o::l,k,listed,a,hl,hB,h=>by
  have h0:ops[k]? = some o:=by simpa using (hl 0).symm
  simp only[List.length_cons,Region.lexFrom,Bool.and_eq_true] at hB
  obtain⟨⟨hr,hf⟩,hB'⟩:=hB
  obtain⟨v,hy,hK⟩:=h
  exact zse h0 (Region.noSelect_spec hs) l.length listed a (Region.free_spec h0 hf) (by simpa using hr) hy
   (zoh hs l (k+1) _ _ (fun j=>by have:=hl (j+1); simpa [Nat.add_assoc,Nat.add_comm 1 j] using this) hB' hK)
theorem zam {id:Nat}{Q:Exit→Act→World→Prop}{a:Act}{w:World}{l:List Oper}(S:World→Prop)(hm:P.follows .mixedOrders=true)(hB:Region.lexB .any l.toArray=true)
  (hS:S w.drew) (h:zep P l.toArray S (fun a'=>∀ w',S w'→Q .normal a' w') l a):(Code.region id l.toArray true).wp P Q a w:=by
 simp only[Region.lexB,Bool.and_eq_true] at hB
 refine wp_region_any hm (zkf (S:=S) (Q:=fun a'=>∀ w',S w'→Q .normal a' w') (fun a w hS h=>h w hS) _ _ _ _ hS ?_)
 have:=zoh (md:=.any) hB.1 l 0 (Array.replicate l.toArray.size false) a (by simp) (by simpa using hB.2) h
 simpa using this
theorem zas {Q:Act→Prop}{a:Act}(h:Q a):zep P ops S Q [] a:=h
theorem zaq {Q:Act→Prop}{a:Act}{o:Oper}{rest:List Oper}(hw:Region.wanted o (yielded ops a.tmps)=false)(h:zep P ops S Q rest (a.put o.dst undef)):zep P ops S Q (o::rest) a:=
 ⟨undef,.inr ⟨hw,rfl⟩,h⟩
theorem zar {Q:Act→Prop}{a:Act}{o:Oper}{rest:List Oper}{v:Value}(hw:Region.wanted o (yielded ops a.tmps)=true)(hv:∀ w,S w→(execOp a.eval o).run P w=.ok (.value v) w)(h:zep P ops S Q rest (a.put o.dst v)):zep P ops S Q (o::rest) a:=
 ⟨v,.inl ⟨hw,fun w hS=>.inl (hv w hS)⟩,h⟩
theorem zal {Q:Act→Prop}{a:Act}{o:Oper}{rest:List Oper}{v:Value}(f:FuncId)(args:Array Value)(hw:Region.wanted o (yielded ops a.tmps)=true)(hr:∀ w,S w→(execOp a.eval o).run P w=.ok (.enter f args) w)
  (hc:∀ w,S w→Calls P f args w (fun e w''=>e=.returned v∧S w'')) (h:zep P ops S Q rest (a.put o.dst v)):zep P ops S Q (o::rest) a:=
 ⟨v,.inl ⟨hw,fun w hS=>.inr (.inr ⟨f,args,hr w hS,hc w hS⟩)⟩,h⟩
/-! Such a region whose last operations run in one order. -/
theorem zug {i:Nat}{a:Act}{w:World}{K:Act→Prop}{K':Act→World→Prop}{Q':Exit→Act→World→Prop}(hS:S w)(h:∀ a w,S w→K a→K' a w)(hh:stK P ops S i K a):wpOp P ops Q' i K' a w:=by
 unfold stK at hh
 cases ho:ops[i]? with
 |none=>
  simp only[ho] at hh
  unfold Go.wpOp
  simp only[ho]
  exact h _ _ hS hh
 |some o=>
  simp only[ho] at hh
  obtain⟨v,hy,hk⟩:=hh
  exact hy.wpOp ho hS (fun w' hS'=>h _ _ hS' hk)
def zjo (P:Program)(md:Region.Mode)(ops:Array Oper)(S:World→Prop)(n:Nat)(L:Array Bool→Act→Prop):Nat→Array Bool→Act→Prop
 |0,listed,a=>L listed a
 |f+1,listed,a=>
  Region.ready md ops listed≠[]∧∀ i∈Region.ready md ops listed,i<n∧stK P ops S i (zjo P md ops S n L f (listed.setIfInBounds i true)) a
theorem zjn {n g:Nat}{L:Array Bool→Act→Prop}{Q':Exit→Act→World→Prop}(hL:∀ listed a w,S w→L listed a→wpAny P md ops Q' g listed a w):
  ∀(f:Nat) (listed:Array Bool) (a:Act) (w:World),S w→zjo P md ops S n L f listed a→wpAny P md ops Q' (f+g) listed a w
 |0,listed,a,w,hS,h=>by rw[Nat.zero_add]; exact hL _ _ _ hS h
 |f+1,listed,a,w,hS,h=>by
  rw[show f+1+g=(f+g)+1 by omega]
  exact⟨fun h0=>absurd h0 h.1,fun i hi=>zug hS (fun a' w' hS' h'=>zjn hL f _ a' w' hS' h') (h.2 i hi).2⟩
theorem zrp {n i:Nat}{oi:Oper}{v:Value}{L:Array Bool→Act→Prop}(hi:ops[i]? = some oi)(hsel:∀(j:Nat) (o:Oper) cs b,ops[j]? = some o→o.op≠.select cs b)
  (hs:Region.sinkB md ops n=true) (hc:Region.chainB md ops n=true) (hn:n<ops.size) (hin:i<n)
  (hdone:∀ listed a,L listed a→∀ j∈Region.ready md ops listed,n≤j):
  ∀(f:Nat) (listed:Array Bool) (a:Act),HeadInv md ops n listed →
   (∀ j oj,ops[j]? = some oj→j≠i→listed.getD j true=false→(∀ e∈oj.after,Region.binds md e=true→e.on≠i)→oi.apart ops oj=true) →
   i∈Region.ready md ops listed→YieldsS P ops S oi v a →
   zjo P md ops S n L f (listed.setIfInBounds i true) (a.put oi.dst v)→zjo P md ops S n L (f+1) listed a:=by
 intro f
 have hst:∀ {a:Act} {K:Act→Prop},YieldsS P ops S oi v a→K (a.put oi.dst v)→stK P ops S i K a:=by
  intro a K hy h
  unfold stK
  simp only[hi]
  exact⟨v,hy,h⟩
 induction f with
 |zero=>
  intro listed a inv _ hr hy H
  have hun:=(mem_ready.1 hr).1
  refine⟨fun h=>(by rw[h] at hr; cases hr),fun j hj=>?_⟩
  have hjn:j<n:=by
   rcases Nat.lt_or_ge j n with h|h
   ·exact h
   ·exact absurd hj (tail_waits hs hc hn inv _ i rfl hin hun j h)
  refine⟨hjn,?_⟩
  by_cases hji:j=i
  ·subst hji; exact hst hy H
  ·have:=hdone _ _ H j (ready_mono hj hji)
   omega
 |succ f ih=>
  intro listed a inv hfree hr hy H
  have hun:=(mem_ready.1 hr).1
  refine⟨fun h=>(by rw[h] at hr; cases hr),fun j hj=>?_⟩
  have hjn:j<n:=by
   rcases Nat.lt_or_ge j n with h|h
   ·exact h
   ·exact absurd hj (tail_waits hs hc hn inv _ i rfl hin hun j h)
  refine⟨hjn,?_⟩
  by_cases hji:j=i
  ·subst hji; exact hst hy H
  ·have h1:=(H.2 j (ready_mono hj hji)).2
   obtain⟨hjun,oj,hoj,hall⟩:=mem_ready.1 hj
   have hnot:∀ e∈oj.after,Region.binds md e=true→e.on≠i:=fun e he hb heq=>by
    have h1:=hall e he hb
    rw[heq,getD_both hun] at h1
    cases h1
   have h2:=zvr hoj (hfree j oj hoj hji hjun hnot) (fun cs b=>hsel i oi cs b hi) (fun cs b=>hsel j oj cs b hoj) hy h1
   have hfree':∀ k ok,ops[k]? = some ok→k≠i→(listed.setIfInBounds j true).getD k true=false →
     (∀ e∈ok.after,Region.binds md e=true→e.on≠i)→oi.apart ops ok=true:=fun k ok hk hki hun hno=>by
    refine hfree k ok hk hki ?_ hno
    by_cases hjk:j=k
    ·subst hjk; exact hjun
    ·rw[getD_set_ne true hjk] at hun; exact hun
   refine zsl (fun a' h3=>ih (listed.setIfInBounds j true) a' (inv.set hj hjn) hfree' (ready_mono hr (Ne.symm hji)) h3.1 ?_) h2
   rw[Array.setIfInBounds_comm _ _ hji]
   exact h3.2
theorem zng {n g:Nat}{Lq:Act→Prop}(hsel:Region.noSelect ops=true)(hs:Region.sinkB md ops n=true)(hc:Region.chainB md ops n=true)(hn:n<ops.size):
  ∀(l:List Oper) (k:Nat) (listed:Array Bool) (a:Act),(∀ j,j<l.length→l[j]? = ops[k+j]?)→k+l.length=n→HeadInv md ops n listed →
  Region.lexHead md ops g l.length k listed=true→zep P ops S Lq l a →
  zjo P md ops S n (fun listed' a'=>Region.seqB md ops g n listed'=true∧Lq a') l.length listed a
 | [],k,listed,a,_,hk,_,hB,h=>by
  have:k=n:=by simpa using hk
  subst this
  exact⟨by simpa [Region.lexHead] using hB,h⟩
 |o::l,k,listed,a,hl,hk,inv,hB,h=>by
  have h0:ops[k]? = some o:=by simpa using (hl 0 (by simp)).symm
  simp only[List.length_cons,Region.lexHead,Bool.and_eq_true] at hB
  obtain⟨⟨hr,hf⟩,hB'⟩:=hB
  have hkn:k<n:=by simp only[List.length_cons] at hk; omega
  have hr':k∈Region.ready md ops listed:=by simpa using hr
  obtain⟨v,hy,hK⟩:=h
  exact zrp h0 (Region.noSelect_spec hsel) hs hc hn hkn (fun listed' a' hL=>seqB_ready hL.1) l.length listed a inv (Region.free_spec h0 hf) hr' hy
   (zng hsel hs hc hn l (k+1) _ _ (fun j hj=>by have:=hl (j+1) (by simp; omega); simpa [Nat.add_assoc,Nat.add_comm 1 j] using this) (by simp only[List.length_cons] at hk; omega) (inv.set hr' hkn) hB' hK)
theorem zew {id:Nat}{Q:Exit→Act→World→Prop}{a:Act}{w:World}{l:List Oper}(S:World→Prop)(n:Nat)(hm:P.follows .mixedOrders=true)(hB:Region.lexTailB .any l.toArray n=true)
  (hS:S w.drew) (h:zep P l.toArray S (fun a'=>∀ w',S w'→wpList P l.toArray Q (l.drop n) a' w') (l.take n) a):(Code.region id l.toArray true).wp P Q a w:=by
 simp only[Region.lexTailB,Bool.and_eq_true,decide_eq_true_eq] at hB
 obtain⟨⟨⟨⟨hsel,hn⟩,hs⟩,hc⟩,hlex⟩:=hB
 have hn':n<l.length:=by simpa using hn
 have htl:(l.take n).length=n:=by simp; omega
 have hdl:(l.drop n).length=l.toArray.size - n:=by simp
 have inv0:HeadInv .any l.toArray n (Array.replicate l.toArray.size false):=
  ⟨by simp,fun j oj _ hl=>(by rw[getD_replicate_false] at hl; cases hl),fun t _ ht=>getD_in (by simpa using ht) (getD_replicate_false _ _)⟩
 have H:=zng (md:=.any) (g:=l.toArray.size - n) hsel hs hc hn (l.take n) 0 _ a (fun j hj=>by
  have hj':j<n:=by rw[htl] at hj; exact hj
  simp[hj']) (by simpa using htl) inv0 (by rw[htl]; exact hlex) h
 refine wp_region_any hm ?_
 have:=zjn (Q':=Q) (g:=l.toArray.size - n) (S:=S) (fun listed a' w' hS' hL=>by
  have:=wpAny_of_seq (md:=.any) (Q':=Q) (l.drop n) n listed a' w' (fun j=>by simp[List.getElem?_drop]) (by rw[hdl]; exact hL.1) (hL.2 w' hS')
  rwa [hdl] at this) _ _ _ _ hS H
 rw[htl,show n+(l.toArray.size - n)=l.toArray.size by omega] at this
 exact this
end
end
section
open Go.RowKit
section
variable {P:Program}{ops:Array Oper}{md:Region.Mode}{Fact:World→Prop}{st:Nat}{Q:Act→World→Prop}
def ActsR (P:Program)(ops:Array Oper)(o:Oper)(a:Act)(w:World)(R:Value→World→Prop):Prop:=
 (Region.wanted o (yielded ops a.tmps)=true∧((∃ v w',(execOp a.eval o).run P w=.ok (.value v) w'∧R v w')∨(∃ w',(execOp a.eval o).run P w=.ok .skip w'∧R undef w') ∨
  (∃ f args,(execOp a.eval o).run P w=.ok (.enter f args) w∧Calls P f args w (fun e w'=>∃ v,e=.returned v∧R v w')))) ∨
 (Region.wanted o (yielded ops a.tmps)=false∧R undef w)
theorem ActsR.mono {o:Oper}{a:Act}{w:World}{R R':Value→World→Prop}(h:ActsR P ops o a w R)(hR:∀ v w',R v w'→R' v w'):ActsR P ops o a w R':=by
 rcases h with⟨h1,h2⟩|⟨h1,h2⟩
 ·refine .inl ⟨h1,?_⟩
  rcases h2 with⟨v,w',h,hr⟩|⟨w',h,hr⟩|⟨f,args,h,hc⟩
  ·exact .inl ⟨v,w',h,hR _ _ hr⟩
  ·exact .inr (.inl ⟨w',h,hR _ _ hr⟩)
  ·exact .inr (.inr ⟨f,args,h,hc.mono fun e w' ⟨v,he,hr⟩=>⟨v,he,hR _ _ hr⟩⟩)
 ·exact .inr ⟨h1,hR _ _ h2⟩
theorem ActsR.of_same {o:Oper}{a a':Act}{w:World}{R:Value→World→Prop}(h:ActsR P ops o a w R)(he:execOp a'.eval o=execOp a.eval o)
  (hw:Region.wanted o (yielded ops a'.tmps)=Region.wanted o (yielded ops a.tmps)):ActsR P ops o a' w R:=by
 unfold ActsR at *
 rw[he,hw]
 exact h
theorem ActsR.wpOp {i:Nat}{o:Oper}{a:Act}{w:World}{Q':Exit→Act→World→Prop}{K:Act→World→Prop}(hi:ops[i]? = some o)(h:ActsR P ops o a w (fun v w'=>K (a.put o.dst v) w')):wpOp P ops Q' i K a w:=by
 unfold Go.wpOp
 simp only[hi]
 rcases h with⟨hw,h2⟩|⟨hw,h2⟩
 ·rcases h2 with⟨v,w',h,hr⟩|⟨w',h,hr⟩|⟨f,args,h,hc⟩
  ·simp only[hw,if_true,Oper.wp,h,Oper.upon]; exact .inl hr
  ·simp only[hw,if_true,Oper.wp,h,Oper.upon]; exact .inl hr
  ·simp only[hw,if_true,Oper.wp,h,Oper.upon]
   exact .inl (hc.mono fun e w'' ⟨v,he,hr⟩=>by subst he; exact hr)
 ·simp only[hw,Bool.false_eq_true,if_false]; exact h2
def qbb (Fact:World→Prop)(st:Nat)(listed:Array Bool)(w:World):Prop:=listed.getD st false=true∨Fact w
def zhh (P:Program)(md:Region.Mode)(ops:Array Oper)(Fact:World→Prop)(st:Nat)(Q:Act→World→Prop):Nat→Array Bool→Act→World→Prop
 |0,listed,a,w=>Region.ready md ops listed=[]∧Q a w
 |fuel+1,listed,a,w=>
  (Region.ready md ops listed=[]→Q a w) ∧
  ∀ i∈Region.ready md ops listed,∃ o,ops[i]? = some o∧ActsR P ops o a w (fun v w'=>qbb Fact st (listed.setIfInBounds i true) w'∧zhh P md ops Fact st Q fuel (listed.setIfInBounds i true) (a.put o.dst v) w')
theorem zkg {Q':Exit→Act→World→Prop}(hQ:∀ a w,Q a w→Q' .normal a w):∀(fuel:Nat) (listed:Array Bool) (a:Act) (w:World),zhh P md ops Fact st Q fuel listed a w→wpAny P md ops Q' fuel listed a w
 |0,_,_,_,h=>⟨h.1,hQ _ _ h.2⟩
 |fuel+1,_,a,w,h=>⟨fun h0=>hQ _ _ (h.1 h0),fun i hi=>by
   obtain⟨o,ho,h2⟩:=h.2 i hi
   exact ActsR.wpOp ho (h2.mono fun v w' h3=>zkg hQ fuel _ _ _ h3.2)⟩
def QuietC (P:Program)(ops:Array Oper)(Fact:World→Prop)(o:Oper)(v:Value)(a:Act):Prop:=∀ w,Fact w→ActsR P ops o a w (fun u w'=>u=v∧w'=w)
theorem QuietC.of_same {o:Oper}{v:Value}{a a':Act}(h:QuietC P ops Fact o v a)(he:execOp a'.eval o=execOp a.eval o)
  (hw:Region.wanted o (yielded ops a'.tmps)=Region.wanted o (yielded ops a.tmps)):QuietC P ops Fact o v a':=fun w hF=>(h w hF).of_same he hw
def zlq (md:Region.Mode)(ops:Array Oper)(st i:Nat):Bool:=match ops[st]? with
 |none=>true
 |some o=>st != i && o.after.any fun e=>Region.binds md e && e.on == i
theorem zlp {i:Nat}{oi:Oper}{v:Value}(hi:ops[i]? = some oi)(hsel:∀(j:Nat) (o:Oper) cs b,ops[j]? = some o→o.op≠.select cs b)(hst:zlq md ops st i=true):
  ∀(fuel:Nat) (listed:Array Bool) (a:Act) (w:World),listed.getD st false=false→Fact w →
   (∀ j oj,ops[j]? = some oj→j≠i→listed.getD j true=false→(∀ e∈oj.after,Region.binds md e=true→e.on≠i)→oi.apart ops oj=true) →
   i∈Region.ready md ops listed→QuietC P ops Fact oi v a →
   zhh P md ops Fact st Q fuel (listed.setIfInBounds i true) (a.put oi.dst v) w→zhh P md ops Fact st Q (fuel+1) listed a w:=by
 intro fuel
 have own:∀(f:Nat) (listed:Array Bool) (a:Act) (w:World),Fact w→QuietC P ops Fact oi v a→zhh P md ops Fact st Q f (listed.setIfInBounds i true) (a.put oi.dst v) w →
   ∃ o,ops[i]? = some o∧ActsR P ops o a w (fun v w'=>qbb Fact st (listed.setIfInBounds i true) w'∧zhh P md ops Fact st Q f (listed.setIfInBounds i true) (a.put o.dst v) w'):=by
  intro f listed a w hF hq H
  refine⟨oi,hi,(hq w hF).mono ?_⟩
  rintro u w' ⟨rfl,rfl⟩
  exact⟨.inr hF,H⟩
 induction fuel with
 |zero=>
  intro listed a w hs hF _ hr hq H
  refine⟨fun h=>(by rw[h] at hr; cases hr),fun j hj=>?_⟩
  by_cases hji:j=i
  ·subst hji; exact own 0 _ _ _ hF hq H
  ·have:=ready_mono hj hji
   rw[H.1] at this
   cases this
 |succ fuel ih=>
  intro listed a w hs hF hfree hr hq H
  refine⟨fun h=>(by rw[h] at hr; cases hr),fun j hj=>?_⟩
  by_cases hji:j=i
  ·subst hji; exact own _ _ _ _ hF hq H
  ·obtain⟨oj,hoj,h1⟩:=H.2 j (ready_mono hj hji)
   obtain⟨hjun,oj',hoj',hall⟩:=mem_ready.1 hj
   obtain rfl:oj=oj':=Option.some.inj (hoj.symm.trans hoj')
   have hin:=(mem_ready.1 hr).1
   have hnot:∀ e∈oj.after,Region.binds md e=true→e.on≠i:=fun e he hb heq=>by
    have h1:=hall e he hb
    rw[heq,getD_both hin] at h1
    cases h1
   have hjst:j≠st:=by
    rintro rfl
    unfold zlq at hst
    rw[hoj] at hst
    simp only[Bool.and_eq_true] at hst
    obtain⟨e,he,hb⟩:=Array.any_eq_true'.1 hst.2
    simp only[Bool.and_eq_true,beq_iff_eq] at hb
    exact hnot e he hb.1 hb.2
   have hap:=hfree j oj hoj hji hjun hnot
   obtain⟨p1,p2,p3⟩:=Oper.apart_spec hap
   refine⟨oj,hoj,(h1.of_same (execOp_put oj (fun cs b=>hsel j oj cs b hoj) a oi.dst v p1).symm (wanted_put oj a oi.dst v p1).symm).mono ?_⟩
   rintro u w' ⟨hC,hK⟩
   have hs':(listed.setIfInBounds j true).getD st false=false:=by rw[getD_set_ne false hjst]; exact hs
   have hst2:((listed.setIfInBounds i true).setIfInBounds j true).getD st false=false:=by
    have hist:i≠st:=by
     rintro rfl
     unfold zlq at hst
     rw[hi] at hst
     simp at hst
    rw[getD_set_ne false hjst,getD_set_ne false hist]
    exact hs
   have hF':Fact w':=hC.resolve_left (by rw[hst2]; decide)
   refine⟨.inr hF',ih (listed.setIfInBounds j true) (a.put oj.dst u) w' hs' hF' (fun k ok hk hki hun hno=>?_) (ready_mono hr (Ne.symm hji))
    (hq.of_same (execOp_put oi (fun cs b=>hsel i oi cs b hi) a oj.dst u p3) (wanted_put oi a oj.dst u p3)) ?_⟩
   ·refine hfree k ok hk hki ?_ hno
    by_cases hjk:j=k
    ·subst hjk; exact hjun
    ·rw[getD_set_ne true hjk] at hun; exact hun
   ·rw[Array.setIfInBounds_comm _ _ hji,←Act.put_comm a v u p2]
    exact hK
def zcq (P:Program)(ops:Array Oper)(Fact:World→Prop)(st:Nat)(Q:Act→World→Prop):Nat→List Bool→List Oper→Act→World→Prop
 |_,_,[],a,w=>Q a w
 |_,[],_::_,_,_=>False
 |k,true::bs,o::rest,a,w=>ActsR P ops o a w (fun v w'=>(st≤k∨Fact w')∧zcq P ops Fact st Q (k+1) bs rest (a.put o.dst v) w')
 |k,false::bs,o::rest,a,w=>∃ v,QuietC P ops Fact o v a∧zcq P ops Fact st Q (k+1) bs rest (a.put o.dst v) w
def zfo (md:Region.Mode)(ops:Array Oper)(st:Nat):List Bool→Nat→Array Bool→Bool
 | [],k,listed=>decide (k=ops.size) && (Region.ready md ops listed).isEmpty
 |true::bs,k,listed=>Region.ready md ops listed == [k] && zfo md ops st bs (k+1) (listed.setIfInBounds k true)
 |false::bs,k,listed=>(Region.ready md ops listed).contains k && Region.free md ops listed k && zlq md ops st k && decide (k<st) && zfo md ops st bs (k+1) (listed.setIfInBounds k true)
theorem zki (hs:Region.noSelect ops=true):∀(l:List Oper) (bs:List Bool) (k:Nat) (listed:Array Bool) (a:Act) (w:World),(∀ j,l[j]? = ops[k+j]?)→(∀ j,k≤j→listed.getD j false=false)→(∀ j,j<k→listed.getD j false=true)→(k≤st→Fact w) →
  zfo md ops st bs k listed=true→zcq P ops Fact st Q k bs l a w→zhh P md ops Fact st Q l.length listed a w
 | [],bs,k,listed,a,w,hl,_,_,_,hB,h=>by
  have hk:ops.size≤k:=by
   have:=hl 0
   simp at this
   omega
  refine⟨?_,by cases bs with|nil=>exact h|cons b bs=>cases b<;>exact h⟩
  cases bs with
  |nil=>
   simp only[zfo,Bool.and_eq_true] at hB
   simpa using hB.2
  |cons b bs=>
   exfalso
   cases b with
   |true=>
    simp only[zfo,Bool.and_eq_true,beq_iff_eq] at hB
    have:k∈Region.ready md ops listed:=by rw[hB.1]; exact List.mem_singleton.2 rfl
    obtain⟨-,o,ho, -⟩:=mem_ready.1 this
    have:=(Array.getElem?_eq_some_iff.1 ho).1
    omega
   |false=>
    simp only[zfo,Bool.and_eq_true] at hB
    have:k∈Region.ready md ops listed:=by simpa using hB.1.1.1.1
    obtain⟨-,o,ho, -⟩:=mem_ready.1 this
    have:=(Array.getElem?_eq_some_iff.1 ho).1
    omega
 |o::l,bs,k,listed,a,w,hl,hz,hd,hF,hB,h=>by
  have h0:ops[k]? = some o:=by simpa using (hl 0).symm
  have hl':∀ j,l[j]? = ops[k+1+j]?:=fun j=>by have:=hl (j+1); simpa [Nat.add_assoc,Nat.add_comm 1 j] using this
  have hz':∀ j,k+1≤j→(listed.setIfInBounds k true).getD j false=false:=fun j hj=>by rw[getD_set_ne false (by omega)]; exact hz j (by omega)
  have hd':k<listed.size→∀ j,j<k+1→(listed.setIfInBounds k true).getD j false=true:=fun hlt j hj=>by
   by_cases e:j=k
   ·subst e; simp[hlt]
   ·rw[getD_set_ne false (fun h=>e h.symm)]; exact hd j (by omega)
  cases bs with
  |nil=>exact h.elim
  |cons b bs=>
   cases b with
   |true=>
    simp only[zfo,Bool.and_eq_true,beq_iff_eq] at hB
    refine⟨fun h1=>(by rw[h1] at hB; cases hB.1),fun i hi=>?_⟩
    rw[hB.1,List.mem_singleton] at hi
    subst hi
    refine⟨o,h0,ActsR.mono h ?_⟩
    rintro v w' ⟨hc,hK⟩
    have hil:i<listed.size:=by
     have:i∈Region.ready md ops listed:=by rw[hB.1]; exact List.mem_singleton.2 rfl
     have hun:=(mem_ready.1 this).1
     rcases Nat.lt_or_ge i listed.size with h'|h'
     ·exact h'
     ·simp[Array.getElem?_eq_none h'] at hun
    refine⟨hc.elim (fun e=>.inl (hd' hil st (by omega))) .inr,zki hs l bs (i+1) _ _ w' hl' hz' (hd' hil) (fun hle=>hc.resolve_left (by omega)) hB.2 hK⟩
   |false=>
    simp only[zfo,Bool.and_eq_true,decide_eq_true_eq] at hB
    obtain⟨⟨⟨⟨hr,hf⟩,hw⟩,hks⟩,hB'⟩:=hB
    obtain⟨v,hq,hK⟩:=h
    exact zlp h0 (Region.noSelect_spec hs) hw l.length listed a w (hz st (by omega)) (hF (by omega)) (Region.free_spec h0 hf) (by simpa using hr) hq
     (zki hs l bs (k+1) _ _ w hl' hz' (hd' (by
      have:k∈Region.ready md ops listed:=by simpa using hr
      have hun:=(mem_ready.1 this).1
      rcases Nat.lt_or_ge k listed.size with h'|h'
      ·exact h'
      ·simp[Array.getElem?_eq_none h'] at hun)) (fun hle=>hF (by omega)) hB' hK)
theorem zbu {id:Nat}{Q':Exit→Act→World→Prop}{a:Act}{w:World}{l:List Oper}(Fact:World→Prop)(st:Nat)(bs:List Bool)(hm:P.follows .mixedOrders=true)(hsel:Region.noSelect l.toArray=true)(hB:zfo .any l.toArray st bs 0 (Array.replicate l.toArray.size false)=true)
  (hF:Fact w.drew) (h:zcq P l.toArray Fact st (fun a' w'=>Q' .normal a' w') 0 bs l a w.drew):(Code.region id l.toArray true).wp P Q' a w:=by
 have:=zki (md:=.any) (Q:=fun a' w'=>Q' .normal a' w') hsel l bs 0 (Array.replicate l.toArray.size false) a w.drew (by simp) (fun j _=>getD_replicate_false _ _) (fun j hj=>absurd hj (Nat.not_lt_zero j)) (fun _=>hF) hB h
 exact wp_region_any hm (zkg (fun a w h=>h) _ _ _ _ (by simpa using this))
theorem zcu {k:Nat}{bs:List Bool}{a:Act}{w:World}(h:Q a w):zcq P ops Fact st Q k bs [] a w:=by cases bs with|nil=>exact h|cons b _=>cases b<;>exact h
theorem zbi {k:Nat}{bs:List Bool}{o:Oper}{rest:List Oper}{a:Act}{w:World}{v:Value}(hw:Region.wanted o (yielded ops a.tmps)=true)(hv:∀ w,Fact w→(execOp a.eval o).run P w=.ok (.value v) w)
  (h:zcq P ops Fact st Q (k+1) bs rest (a.put o.dst v) w):zcq P ops Fact st Q k (false::bs) (o::rest) a w:=
 ⟨v,fun w hF=>.inl ⟨hw,.inl ⟨v,w,hv w hF,rfl,rfl⟩⟩,h⟩
theorem zdt {k:Nat}{bs:List Bool}{o:Oper}{rest:List Oper}{a:Act}{w:World}(f:FuncId)(args:Array Value)(R:Value→World→Prop)(hw:Region.wanted o (yielded ops a.tmps)=true)(hr:(execOp a.eval o).run P w=.ok (.enter f args) w)
  (hc:Calls P f args w (fun e w'=>∃ v,e=.returned v∧R v w')) (h:∀ v w',R v w'→(st≤k∨Fact w')∧zcq P ops Fact st Q (k+1) bs rest (a.put o.dst v) w'):zcq P ops Fact st Q k (true::bs) (o::rest) a w:=
 ActsR.mono (.inl ⟨hw,.inr (.inr ⟨f,args,hr,hc⟩)⟩) h
theorem zbg {k:Nat}{bs:List Bool}{o:Oper}{rest:List Oper}{a:Act}{w w':World}{v:Value}(hw:Region.wanted o (yielded ops a.tmps)=true)(hr:(execOp a.eval o).run P w=.ok (.value v) w')(hF:st≤k∨Fact w')
  (h:zcq P ops Fact st Q (k+1) bs rest (a.put o.dst v) w'):zcq P ops Fact st Q k (true::bs) (o::rest) a w:=
 .inl ⟨hw,.inl ⟨v,w',hr,hF,h⟩⟩
theorem zdm {k:Nat}{bs:List Bool}{o:Oper}{rest:List Oper}{a:Act}{w w':World}(hw:Region.wanted o (yielded ops a.tmps)=true)(hr:(execOp a.eval o).run P w=.ok .skip w')(hF:st≤k∨Fact w')
  (h:zcq P ops Fact st Q (k+1) bs rest (a.put o.dst undef) w'):zcq P ops Fact st Q k (true::bs) (o::rest) a w:=
 .inl ⟨hw,.inr (.inl ⟨w',hr,hF,h⟩)⟩
end
end
section
open Go.RowKit
section
variable {P:Program}{ops:Array Oper}{md:Region.Mode}{Fact:World→Prop}{Q:Act→World→Prop}
def zhw (P:Program)(l:List Oper)(Fact:World→Prop)(Q:Act→World→Prop):List (Nat × Bool)→Act→World→Prop
 | [],a,w=>Q a w
 |(i,true)::r,a,w=>∃ o,l[i]? = some o∧ActsR P l.toArray o a w (fun v w'=>Fact w'∧zhw P l Fact Q r (a.put o.dst v) w')
 |(i,false)::r,a,w=>∃ o v,l[i]? = some o∧QuietC P l.toArray Fact o v a∧zhw P l Fact Q r (a.put o.dst v) w
def zkr (md:Region.Mode)(ops:Array Oper):List (Nat × Bool)→Array Bool→Bool
 | [],listed=>(Region.ready md ops listed).isEmpty
 |(i,true)::r,listed=>Region.ready md ops listed == [i] && zkr md ops r (listed.setIfInBounds i true)
 |(i,false)::r,listed=>(Region.ready md ops listed).contains i && Region.free md ops listed i && zkr md ops r (listed.setIfInBounds i true)
theorem zkh {l:List Oper}(hs:Region.noSelect l.toArray=true):∀(r:List (Nat × Bool)) (listed:Array Bool) (a:Act) (w:World),listed.getD l.length false=false→Fact w→zkr md l.toArray r listed=true→zhw P l Fact Q r a w →
  zhh P md l.toArray Fact l.length Q r.length listed a w
 | [],listed,a,w,_,_,hB,h=>by
  simp only[zkr] at hB
  exact⟨by simpa using hB,h⟩
 |(i,true)::r,listed,a,w,hz,hF,hB,h=>by
  simp only[zkr,Bool.and_eq_true,beq_iff_eq] at hB
  obtain⟨o,ho,h⟩:=h
  have hlt:=(List.getElem?_eq_some_iff.1 ho).1
  refine⟨fun h1=>(by rw[h1] at hB; cases hB.1),fun j hj=>?_⟩
  rw[hB.1,List.mem_singleton] at hj
  subst hj
  refine⟨o,by simpa using ho,ActsR.mono h ?_⟩
  rintro v w' ⟨hc,hK⟩
  exact⟨.inr hc,zkh hs r _ _ w' (by rw[getD_set_ne false (by omega)]; exact hz) hc hB.2 hK⟩
 |(i,false)::r,listed,a,w,hz,hF,hB,h=>by
  simp only[zkr,Bool.and_eq_true] at hB
  obtain⟨⟨hr,hf⟩,hB'⟩:=hB
  obtain⟨o,v,ho,hq,hK⟩:=h
  have hlt:=(List.getElem?_eq_some_iff.1 ho).1
  have h0:l.toArray[i]? = some o:=by simpa using ho
  exact zlp h0 (Region.noSelect_spec hs) (by unfold zlq; rw[show l.toArray[l.length]? = none by simp]) r.length listed a w hz hF (Region.free_spec h0 hf) (by simpa using hr) hq
   (zkh hs r _ _ w (by rw[getD_set_ne false (by omega)]; exact hz) hF hB' hK)
theorem zlj {id:Nat}{Q':Exit→Act→World→Prop}{a:Act}{w:World}{l:List Oper}(Fact:World→Prop)(r:List (Nat × Bool))(hm:P.follows .mixedOrders=true)(hsel:Region.noSelect l.toArray=true)(hB:(r.length == l.length && zkr .any l.toArray r (Array.replicate l.toArray.size false))=true)
  (hF:Fact w.drew) (h:zhw P l Fact (fun a' w'=>Q' .normal a' w') r a w.drew):(Code.region id l.toArray true).wp P Q' a w:=by
 rw[Bool.and_eq_true,beq_iff_eq] at hB
 have:=zkh (md:=.any) (Q:=fun a' w'=>Q' .normal a' w') hsel r (Array.replicate l.toArray.size false) a w.drew (by simp) hF hB.2 h
 rw[hB.1] at this
 exact wp_region_any hm (zkg (fun a w h=>h) _ _ _ _ (by simpa using this))
theorem zqm {l:List Oper}{a:Act}{w:World}(h:Q a w):zhw P l Fact Q [] a w:=h
theorem znf {l:List Oper}{i:Nat}{r:List (Nat × Bool)}{o:Oper}{a:Act}{w:World}{v:Value}(ho:l[i]? = some o)(hw:Region.wanted o (yielded l.toArray a.tmps)=true)(hv:∀ w,Fact w→(execOp a.eval o).run P w=.ok (.value v) w)
  (h:zhw P l Fact Q r (a.put o.dst v) w):zhw P l Fact Q ((i,false)::r) a w:=
 ⟨o,v,ho,fun w hF=>.inl ⟨hw,.inl ⟨v,w,hv w hF,rfl,rfl⟩⟩,h⟩
theorem zhv {l:List Oper}{i:Nat}{r:List (Nat × Bool)}{o:Oper}{a:Act}{w:World}(f:FuncId)(args:Array Value)(R:Value→World→Prop)(ho:l[i]? = some o)(hw:Region.wanted o (yielded l.toArray a.tmps)=true)(hr:(execOp a.eval o).run P w=.ok (.enter f args) w)
  (hc:Calls P f args w (fun e w'=>∃ v,e=.returned v∧R v w')) (h:∀ v w',R v w'→Fact w'∧zhw P l Fact Q r (a.put o.dst v) w'):zhw P l Fact Q ((i,true)::r) a w:=
 ⟨o,ho,ActsR.mono (.inl ⟨hw,.inr (.inr ⟨f,args,hr,hc⟩)⟩) h⟩
end
end
section
open Go.RowKit
section
variable {P:Program}{ops:Array Oper}{md:Region.Mode}{Sd:Bool→World→Prop}
def qec (P:Program)(ops:Array Oper)(Sd:Bool→World→Prop)(o:Oper)(a:Act):Prop:=
 Region.wanted o (yielded ops a.tmps)=true∧∀ w,Sd false w→∃ w',(execOp a.eval o).run P w=.ok .skip w'∧Sd true w'
def YQ (P:Program)(ops:Array Oper)(Sd:Bool→World→Prop)(o:Oper)(v:Value)(a:Act):Prop:=
 (o.dst=none∧qec P ops Sd o a)∨(o.dst≠none∧∀ d,YieldsS P ops (Sd d) o v a)
theorem YQ.of_same {o:Oper}{v:Value}{a a':Act}(hy:YQ P ops Sd o v a)(he:execOp a'.eval o=execOp a.eval o)
  (hw:Region.wanted o (yielded ops a'.tmps)=Region.wanted o (yielded ops a.tmps)):YQ P ops Sd o v a':=by
 rcases hy with⟨h1,h2⟩|⟨h1,h2⟩
 ·refine .inl ⟨h1,?_⟩
  unfold qec at *
  rw[he,hw]
  exact h2
 ·exact .inr ⟨h1,fun d=>(h2 d).of_same he hw⟩
def stQ (P:Program)(ops:Array Oper)(Sd:Bool→World→Prop)(i:Nat)(K:Act→Prop)(a:Act):Prop:=
 match ops[i]? with
 |none=>K a
 |some o=>∃ v,YQ P ops Sd o v a∧K (a.put o.dst v)
theorem qbv {i:Nat}{a:Act}{K K':Act→Prop}(h:∀ a,K a→K' a)(hh:stQ P ops Sd i K a):stQ P ops Sd i K' a:=by
 unfold stQ at *
 split
 ·exact h _ (by simpa [*] using hh)
 ·rename_i o ho
  simp only[ho] at hh
  obtain⟨v,h1,h2⟩:=hh
  exact⟨v,h1,h _ h2⟩
def zln (P:Program)(md:Region.Mode)(ops:Array Oper)(Sd:Bool→World→Prop)(Q:Act→Prop):Nat→Array Bool→Act→Prop
 |0,listed,a=>Region.ready md ops listed=[]∧Q a
 |fuel+1,listed,a=>
  (Region.ready md ops listed=[]→Q a) ∧
  ∀ i∈Region.ready md ops listed,stQ P ops Sd i (zln P md ops Sd Q fuel (listed.setIfInBounds i true)) a
def lowB (md:Region.Mode)(ops:Array Oper):Bool:=(List.range ops.size).all fun i=>match ops[i]? with|none=>true|some o=>o.after.all fun e=>!Region.binds md e || decide (e.on<i)
theorem zyz (h:lowB md ops=true):∀ i,i<ops.size→∃ o,ops[i]? = some o∧∀ e∈o.after,Region.binds md e=true→e.on<i:=by
 intro i hi
 have h1:=List.all_eq_true.1 h i (List.mem_range.2 hi)
 rw[Array.getElem?_eq_getElem hi] at h1
 refine⟨_,Array.getElem?_eq_getElem hi,fun e he hb=>?_⟩
 have h2:=Array.all_eq_true_iff_forall_mem.1 h1 e he
 rw[hb] at h2
 simpa using h2
def oneB (ops:Array Oper)(i₀:Nat):Bool:=(List.range ops.size).all fun i=>match ops[i]? with|none=>true|some o=>o.dst.isNone == (i == i₀)
theorem zqw {i₀:Nat}(h:oneB ops i₀=true){i:Nat}{o:Oper}(ho:ops[i]? = some o):o.dst=none↔i=i₀:=by
 have hi:=(Array.getElem?_eq_some_iff.1 ho).1
 have h1:=List.all_eq_true.1 h i (List.mem_range.2 hi)
 rw[ho] at h1
 have h2:o.dst.isNone=(i == i₀):=by simpa using h1
 rw[←Option.isNone_iff_eq_none,h2]
 simp
theorem zwk {i₀:Nat}{Q:Act→Prop}{Q':Exit→Act→World→Prop}(hone:oneB ops i₀=true)(hlow:lowB md ops=true)(hi₀:i₀<ops.size)(hQ:∀ a w,Sd true w→Q a→Q' .normal a w):
  ∀(fuel:Nat) (listed:Array Bool) (a:Act) (w:World),listed.size=ops.size→Sd (listed.getD i₀ false) w→zln P md ops Sd Q fuel listed a→wpAny P md ops Q' fuel listed a w:=by
 have fin:∀(listed:Array Bool) (w:World),listed.size=ops.size→Sd (listed.getD i₀ false) w→Region.ready md ops listed=[]→Sd true w:=by
  intro listed w hsz hS hr
  cases hl:listed.getD i₀ false with
  |true=>rw[hl] at hS; exact hS
  |false=>
   obtain⟨j,hj⟩:=zwo (m:=ops.size) (md:=md) hsz (zyz hlow) i₀ hi₀ hl
   rw[hr] at hj
   cases hj
 intro fuel
 induction fuel with
 |zero=>
  intro listed a w hsz hS h
  exact⟨h.1,hQ _ _ (fin _ _ hsz hS h.1) h.2⟩
 |succ fuel ih=>
  intro listed a w hsz hS h
  refine⟨fun h0=>hQ _ _ (fin _ _ hsz hS h0) (h.1 h0),fun i hi=>?_⟩
  have h2:=h.2 i hi
  obtain⟨hun,o,ho,hall⟩:=mem_ready.1 hi
  have hil:i<listed.size:=by
   rcases Nat.lt_or_ge i listed.size with h'|h'
   ·exact h'
   ·simp[Array.getElem?_eq_none h'] at hun
  unfold stQ at h2
  simp only[ho] at h2
  obtain⟨v,hy,hk⟩:=h2
  rcases hy with⟨hd,hw,hp⟩|⟨hd,hy⟩
  ·have e:i=i₀:=(zqw hone ho).1 hd
   subst e
   have hS0:Sd false w:=by rw[getD_both hun] at hS; exact hS
   obtain⟨w',hr,hS'⟩:=hp w hS0
   unfold Go.wpOp
   simp only[ho,hw,if_true,Oper.wp,hr,Oper.upon]
   rw[hd] at hk
   refine .inl ?_
   rw[hd]
   exact ih _ _ _ (by simpa using hsz) (by rw[show(listed.setIfInBounds i true).getD i false=true by simp[hil]]; exact hS') hk
  ·have hne:i≠i₀:=fun e=>hd ((zqw hone ho).2 e)
   refine(hy _).wpOp ho hS (fun w' hS'=>ih _ _ _ (by simpa using hsz) ?_ hk)
   rw[getD_set_ne false hne]
   exact hS'
theorem qen {j:Nat}{oi oj:Oper}{v:Value}(hj:ops[j]? = some oj)(hap:oi.apart ops oj=true)
  (hsi:∀ cs b,oi.op≠.select cs b) (hsj:∀ cs b,oj.op≠.select cs b) {K:Act→Prop} {a:Act}
  (hy:YQ P ops Sd oi v a) (h:stQ P ops Sd j K (a.put oi.dst v)):
  stQ P ops Sd j (fun a'=>YQ P ops Sd oi v a'∧K (a'.put oi.dst v)) a:=by
 obtain⟨h1,h2,h3⟩:=Oper.apart_spec hap
 have keep:∀(a:Act),YQ P ops Sd oi v a→∀ u,YQ P ops Sd oi v (a.put oj.dst u):=fun a hy u=>
  hy.of_same (execOp_put oi hsi a oj.dst u h3) (wanted_put oi a oj.dst u h3)
 unfold stQ at *
 simp only[hj] at *
 obtain⟨u,hu,hk⟩:=h
 refine⟨u,hu.of_same (execOp_put oj hsj a oi.dst v h1).symm (wanted_put oj a oi.dst v h1).symm,keep a hy u,?_⟩
 rw[←Act.put_comm a v u h2]
 exact hk
theorem zsd {Q:Act→Prop}{i:Nat}{oi:Oper}{v:Value}(hi:ops[i]? = some oi)(hsel:∀(j:Nat) (o:Oper) cs b,ops[j]? = some o→o.op≠.select cs b):
  ∀(fuel:Nat) (listed:Array Bool) (a:Act),
   (∀ j oj,ops[j]? = some oj→j≠i→listed.getD j true=false→(∀ e∈oj.after,Region.binds md e=true→e.on≠i)→oi.apart ops oj=true) →
   i∈Region.ready md ops listed→YQ P ops Sd oi v a →
   zln P md ops Sd Q fuel (listed.setIfInBounds i true) (a.put oi.dst v)→zln P md ops Sd Q (fuel+1) listed a:=by
 intro fuel
 have hst:∀ {a:Act} {K:Act→Prop},YQ P ops Sd oi v a→K (a.put oi.dst v)→stQ P ops Sd i K a:=by
  intro a K hy h
  unfold stQ
  simp only[hi]
  exact⟨v,hy,h⟩
 induction fuel with
 |zero=>
  intro listed a _ hr hy H
  refine⟨fun h=>(by rw[h] at hr; cases hr),fun j hj=>?_⟩
  by_cases hji:j=i
  ·subst hji; exact hst hy H
  ·have:=ready_mono hj hji
   rw[H.1] at this
   cases this
 |succ fuel ih=>
  intro listed a hfree hr hy H
  refine⟨fun h=>(by rw[h] at hr; cases hr),fun j hj=>?_⟩
  by_cases hji:j=i
  ·subst hji; exact hst hy H
  ·have h1:=H.2 j (ready_mono hj hji)
   obtain⟨hjun,oj,hoj,hall⟩:=mem_ready.1 hj
   have hnot:∀ e∈oj.after,Region.binds md e=true→e.on≠i:=fun e he hb heq=>by
    have h1:=hall e he hb
    have h0:=(mem_ready.1 hr).1
    rw[heq] at h1
    rcases Nat.lt_or_ge i listed.size with h'|h'
    ·simp[h'] at h0 h1; rw[h0] at h1; cases h1
    ·simp[Array.getElem?_eq_none h'] at h1
   have h2:=qen hoj (hfree j oj hoj hji hjun hnot) (fun cs b=>hsel i oi cs b hi) (fun cs b=>hsel j oj cs b hoj) hy h1
   have hfree':∀ k ok,ops[k]? = some ok→k≠i→(listed.setIfInBounds j true).getD k true=false →
     (∀ e∈ok.after,Region.binds md e=true→e.on≠i)→oi.apart ops ok=true:=fun k ok hk hki hun hno=>by
    refine hfree k ok hk hki ?_ hno
    by_cases hjk:j=k
    ·subst hjk; exact hjun
    ·rw[getD_set_ne true hjk] at hun; exact hun
   refine qbv (fun a' h3=>ih (listed.setIfInBounds j true) a' hfree' (ready_mono hr (Ne.symm hji)) h3.1 ?_) h2
   rw[Array.setIfInBounds_comm _ _ hji]
   exact h3.2
def zdz (P:Program)(ops:Array Oper)(Sd:Bool→World→Prop)(Q:Act→Prop):List Oper→Act→Prop
 | [],a=>Q a
 |o::rest,a=>∃ v,YQ P ops Sd o v a∧zdz P ops Sd Q rest (a.put o.dst v)
theorem zog {Q:Act→Prop}(hs:Region.noSelect ops=true):∀(l:List Oper) (k:Nat) (listed:Array Bool) (a:Act),(∀ j,l[j]? = ops[k+j]?) →
  Region.lexFrom md ops l.length k listed=true→zdz P ops Sd Q l a→zln P md ops Sd Q l.length listed a
 | [],_,_,_,_,hB,h=>⟨by simpa [Region.lexFrom] using hB,h⟩
 |o::l,k,listed,a,hl,hB,h=>by
  have h0:ops[k]? = some o:=by simpa using (hl 0).symm
  simp only[List.length_cons,Region.lexFrom,Bool.and_eq_true] at hB
  obtain⟨⟨hr,hf⟩,hB'⟩:=hB
  obtain⟨v,hy,hK⟩:=h
  exact zsd h0 (Region.noSelect_spec hs) l.length listed a (Region.free_spec h0 hf) (by simpa using hr) hy
   (zog hs l (k+1) _ _ (fun j=>by have:=hl (j+1); simpa [Nat.add_assoc,Nat.add_comm 1 j] using this) hB' hK)
theorem zcm {id:Nat}{Q:Exit→Act→World→Prop}{a:Act}{w:World}{l:List Oper}(Sd:Bool→World→Prop)(i₀:Nat)(hm:P.follows .mixedOrders=true)(hB:Region.lexB .any l.toArray=true)(hone:oneB l.toArray i₀=true)(hlow:lowB .any l.toArray=true)(hi:i₀<l.toArray.size)
  (hS:Sd false w.drew) (h:zdz P l.toArray Sd (fun a'=>∀ w',Sd true w'→Q .normal a' w') l a):(Code.region id l.toArray true).wp P Q a w:=by
 simp only[Region.lexB,Bool.and_eq_true] at hB
 have:=zog (md:=.any) hB.1 l 0 (Array.replicate l.toArray.size false) a (by simp) (by simpa using hB.2) h
 refine wp_region_any hm (zwk (Sd:=Sd) (Q:=fun a'=>∀ w',Sd true w'→Q .normal a' w') hone hlow hi (fun a w hS h=>h w hS) _ _ _ _ (by simp) ?_ (by simpa using this))
 rw[getD_replicate_false]
 exact hS
theorem zga {Q:Act→Prop}{a:Act}(h:Q a):zdz P ops Sd Q [] a:=h
theorem zey {Q:Act→Prop}{a:Act}{o:Oper}{rest:List Oper}(hd:o.dst≠none)(hw:Region.wanted o (yielded ops a.tmps)=false)(h:zdz P ops Sd Q rest (a.put o.dst undef)):zdz P ops Sd Q (o::rest) a:=
 ⟨undef,.inr ⟨hd,fun _=>.inr ⟨hw,rfl⟩⟩,h⟩
theorem zfz {Q:Act→Prop}{a:Act}{o:Oper}{rest:List Oper}{v:Value}(hd:o.dst≠none)(hw:Region.wanted o (yielded ops a.tmps)=true)(hv:∀ d w,Sd d w→(execOp a.eval o).run P w=.ok (.value v) w)(h:zdz P ops Sd Q rest (a.put o.dst v)):zdz P ops Sd Q (o::rest) a:=
 ⟨v,.inr ⟨hd,fun d=>.inl ⟨hw,fun w hS=>.inl (hv d w hS)⟩⟩,h⟩
theorem zke {Q:Act→Prop}{a:Act}{o:Oper}{rest:List Oper}{v:Value}(f:FuncId)(args:Array Value)(hd:o.dst≠none)(hw:Region.wanted o (yielded ops a.tmps)=true)(hr:∀ d w,Sd d w→(execOp a.eval o).run P w=.ok (.enter f args) w)
  (hc:∀ d w,Sd d w→Calls P f args w (fun e w''=>e=.returned v∧Sd d w'')) (h:zdz P ops Sd Q rest (a.put o.dst v)):zdz P ops Sd Q (o::rest) a:=
 ⟨v,.inr ⟨hd,fun d=>.inl ⟨hw,fun w hS=>.inr (.inr ⟨f,args,hr d w hS,hc d w hS⟩)⟩⟩,h⟩
theorem zei {Q:Act→Prop}{a:Act}{o:Oper}{rest:List Oper}(hd:o.dst=none)(hw:Region.wanted o (yielded ops a.tmps)=true)(hv:∀ w,Sd false w→∃ w',(execOp a.eval o).run P w=.ok .skip w'∧Sd true w')(h:zdz P ops Sd Q rest a):zdz P ops Sd Q (o::rest) a:=
 ⟨undef,.inl ⟨hd,hw,hv⟩,by rw[hd]; exact h⟩
end
end
section
open Go.RowKit
set_option maxRecDepth 100000
section
variable {P:Program}
theorem zob {o:Oper}{a:Act}(w:World)(s x:Operand)(t:TypeId)(ho:o.op=.call { callee:=.builtin .append,args:=#[s,x],argTypes:=#[t,t] })
  (base:Nat) (e:TypeId) (i:TypeInfo) (z:Value) (size bytes:Nat) (ht:P.underlying t=some (.slice e)) (hi:P.info? e=some i) (hz:i.zero=some z)
  (hsize:i.size=size) (hby:i.bytes=bytes) (hzs:z.cells.size=size) (hsz:0<size)
  (v:Value) (n:Nat) (xs:List Value) (hs:a.eval s=v) (hown:w.ownsRow base e size v n xs)
  (ad:Addr) (m c:Nat) (news:List Value) (hx:a.eval x=.slice (some ad) m c) (hl:news.length=m * size) (hnews:∀ j u,news[j]? = some u→w.cell? (ad.add j)=some u) (h1:∀ u∈news,u.oneCell'=true)
  (hm:0<m) (h63:n+m≤maxLen) (hbytes:(n+m) * bytes≤140737488355328) (hbase:base≤w.heap.size):
  ∃ g cap w',(execOp a.eval o).run P w=.ok (.value (.slice (some ⟨g,0,none⟩) (n+m) cap)) w' ∧
   w'.ownsRow base e size (.slice (some ⟨g,0,none⟩) (n+m) cap) (n+m) (xs++news)∧w.grownBy w' v.ownBlock∧(v.ownBlock=some g∨g=w.heap.size)∧g<w'.heap.size:=by
 obtain⟨g,cap,w',hr,h2,h3,h4,h5⟩:=run_append_lies (P:=P) w t o.type base e i z size bytes ht hi hz hsize hby hzs hsz v n xs hown ad m c news hl hnews h1 hm h63 hbytes hbase w.heap.size rfl
 refine⟨g,cap,w',?_,h2,h3,h4,h5⟩
 unfold execOp
 simp only[ho,resolve,invoke,builtin,Sem.run_bind,Sem.run_pure,Result.andThen_ok,List.map_toArray,List.map_cons,List.map_nil,hs,hx,hr]
theorem zef {ops:Array Oper}{Fact:World→Prop}{st:Nat}{Q:Act→World→Prop}{k:Nat}{bs:List Bool}{o:Oper}{rest:List Oper}{a:Act}{w:World}(s x:Operand)(t:TypeId)(hw:Region.wanted o (yielded ops a.tmps)=true)
  (ho:o.op=.call { callee:=.builtin .append,args:=#[s,x],argTypes:=#[t,t] })
  (base:Nat) (e:TypeId) (i:TypeInfo) (z:Value) (size bytes:Nat) (ht:P.underlying t=some (.slice e)) (hi:P.info? e=some i) (hz:i.zero=some z)
  (hsize:i.size=size) (hby:i.bytes=bytes) (hzs:z.cells.size=size) (hsz:0<size)
  (v:Value) (n:Nat) (xs:List Value) (hs:a.eval s=v) (hown:w.ownsRow base e size v n xs)
  (ad:Addr) (m c:Nat) (news:List Value) (hx:a.eval x=.slice (some ad) m c) (hl:news.length=m * size) (hnews:∀ j u,news[j]? = some u→w.cell? (ad.add j)=some u) (h1:∀ u∈news,u.oneCell'=true)
  (hm:0<m) (h63:n+m≤maxLen) (hbytes:(n+m) * bytes≤140737488355328) (hbase:base≤w.heap.size)
  (h:∀ g cap w',w'.ownsRow base e size (.slice (some ⟨g,0,none⟩) (n+m) cap) (n+m) (xs++news)→w.grownBy w' v.ownBlock→(v.ownBlock=some g∨g=w.heap.size)→g<w'.heap.size →
   (st≤k∨Fact w')∧zcq P ops Fact st Q (k+1) bs rest (a.put o.dst (.slice (some ⟨g,0,none⟩) (n+m) cap)) w'):zcq P ops Fact st Q k (true::bs) (o::rest) a w:=by
 obtain⟨g,cap,w',hr,h2,h3,h4,h5⟩:=zob w s x t ho base e i z size bytes ht hi hz hsize hby hzs hsz v n xs hs hown ad m c news hx hl hnews h1 hm h63 hbytes hbase
 obtain⟨h6,h7⟩:=h g cap w' h2 h3 h4 h5
 exact zbg hw hr h6 h7
end
end
end Go.Proofs.YtanlmbbalamgkaaGreatDoor
