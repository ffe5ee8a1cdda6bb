/- Proved: lemmas and contracts of the functions that the law reaches, part 32 of 36: GfRec2. Conditions: as each states. -/
import Derived.Test.YtanlmbbalamgkaaGreatDoorVmi30
namespace Go.Proofs.YtanlmbbalamgkaaGreatDoor
set_option linter.unusedVariables false
set_option linter.unusedSimpArgs false
section
open Go.RowKit
open Rw
set_option maxRecDepth 100000
namespace Gf
def qba (mb kb:Nat)(ub:Option Nat)(sh:Bool)(o:Ob)(w:World)(e:Ending)(w':World):Prop:=e=.returned (.int .i64 o.1)∧Lays mb kb ub sh o.2.1 w w'∧UnkO mb ub o.2.2 w'
theorem Kn.lookV {W:World}{b n:Nat}{k:Val→Option Int}(h:Kn W b n k){v:Val}(hv:ValOk v):
  (Instr.lookup 64 (.map (some b)) (.agg #[.int .i64 v.op,.int .i64 v.n,.string v.s,.int .i64 v.b,.int .i64 v.c]) true).run Tryz.prog W=.ok (.tuple #[.int .i64 ((k v).getD 0),.bool (k v).isSome]) W:=h.look hv
theorem UnkAt.push {mb ub:Nat}{u:List Nat}{W W':World}{vu:Value}{fs:List Value}{p:Nat}{f:Value}{g cap:Nat}(h1:mb<ub)(e1:W.heap[ub]? = some (.cells #[vu] 141 (0,0)))
  (hrow:W.ownsRow (mb+1) 1 1 vu u.length fs) (hj:∀(i:Nat) p,u[i]? = some p→∃ f,fs[i]? = some f∧JumpFn mb W f p) (hf:JumpFn mb W f p)
  (hown:W'.ownsRow (mb+1) 1 1 (.slice (some ⟨g,0,none⟩) (u.length+1) cap) (u.length+1) (fs++[f])) (hg:W.grownBy W' vu.ownBlock):
  UnkAt mb ub (u++[p]) (W'.setCell ⟨ub,0,none⟩ (.slice (some ⟨g,0,none⟩) (u.length+1) cap))∧W'.heap[ub]? = some (.cells #[vu] 141 (0,0)):=by
 have hub:W'.heap[ub]? = some (.cells #[vu] 141 (0,0)):=(hg.block ub (zac e1) (fun e=>by
  obtain⟨-,cur,e2⟩:=zbz hrow e.symm
  rw[e1] at e2
  simp at e2)).trans e1
 have hgs:=grown_set W' ub 0 (.slice (some ⟨g,0,none⟩) (u.length+1) cap)
 have hJ:∀ f p,JumpFn mb W f p→JumpFn mb (W'.setCell ⟨ub,0,none⟩ (.slice (some ⟨g,0,none⟩) (u.length+1) cap)) f p:=by
  rintro f p ⟨b1,b2,rfl,h2,h3,h4,h5⟩
  have hk:∀(b:Nat) (cur:Array Value) (t:TypeId),W.heap[b]? = some (.cells cur t (0,0))→t≠1→t≠141→(W'.setCell ⟨ub,0,none⟩ (.slice (some ⟨g,0,none⟩) (u.length+1) cap)).heap[b]? = some (.cells cur t (0,0)):=by
   intro b cur t e ht1 ht2
   have e3:=(hg.block b (zac e) (fun e4=>by
    obtain⟨-,cur',e2⟩:=zbz hrow e4.symm
    rw[e] at e2
    simp at e2
    exact ht1 e2.2)).trans e
   refine(Below.heap_setCell W' ⟨ub,0,none⟩ _ b (fun e5=>?_)).trans e3
   rw[show b=ub from e5,hub] at e3
   simp at e3
   exact ht2 e3.2.symm
  exact⟨b1,b2,rfl,h2,h3,hk _ _ _ h4 (by decide) (by decide),hk _ _ _ h5 (by decide) (by decide)⟩
 have hne:∀ k,Value.ownBlock (.slice (some ⟨g,0,none⟩) (u.length+1) cap)=some k→k≠ub:=by
  rintro k hk rfl
  obtain⟨-,cur,e2⟩:=zbz hown hk
  rw[hub] at e2
  simp at e2
 refine⟨⟨⟨.slice (some ⟨g,0,none⟩) (u.length+1) cap,fs++[f],heap_setCell_same W' ub 0 _ _ _ hub,?_,fun i q hq=>?_⟩,h1⟩,hub⟩
 ·have:=World.ownsRow.kept hown hgs (.inr fun e=>hne _ e rfl)
  rw[List.length_append]
  exact this
 ·have hlen:fs.length=u.length:=by have:=hrow.1; omega
  by_cases hi:i<u.length
  ·rw[List.getElem?_append_left hi] at hq
   obtain⟨f',hf',hj'⟩:=hj i q hq
   exact⟨f',by rw[List.getElem?_append_left (by omega)]; exact hf',hJ _ _ hj'⟩
  ·have hi':i=u.length:=by
    have:=(List.getElem?_eq_some_iff.1 hq).1
    simp at this
    omega
   subst hi'
   simp at hq
   subst hq
   exact⟨f,by rw[List.getElem?_append_right (by omega),hlen]; simp,hJ _ _ hf⟩
theorem zia {mb ub:Nat}{sh:Bool}{m:Mk}{vw vi vj:Value}{kb:Nat}{n:Nat}{W W':World}{vu v:Value}{fs:List Value}(M:MkAt mb sh m vw vi vj kb W)(h1:mb<ub)(e1:W.heap[ub]? = some (.cells #[vu] 141 (0,0)))
  (hub:W'.heap[ub]? = some (.cells #[vu] 141 (0,0))) (hrow:W.ownsRow (mb+1) 1 1 vu n fs) (hg:W.grownBy W' vu.ownBlock):
  MkAt mb sh m vw vi vj kb (W'.setCell ⟨ub,0,none⟩ v)∧KpG mb kb (some ub) W (W'.setCell ⟨ub,0,none⟩ v):=by
 have M':MkAt mb sh m vw vi vj kb W'∧KpG mb kb (some ub) W W':=by
  rcases hv:vu.ownBlock with _|k
  ·rw[hv] at hg
   have hb:Below W.heap.size W W':=⟨hg.os,hg.tape,hg.output,hg.size,fun k hk=>hg.block k hk (by simp)⟩
   exact⟨M.below hb,KpG.of hb (Nat.le_of_lt M.lt)⟩
  ·obtain⟨h2,cur,e2⟩:=zbz hrow hv
   rw[hv] at hg
   refine⟨M.other hg e2 h2 (by decide) (by decide) (by decide),KpG.grow hg M.box fun k' hk=>?_⟩
   cases hk
   exact .inr ⟨h2,cur,_,e2,.inr ⟨ub,rfl,.inr rfl⟩⟩
 have hgs:=grown_set W' ub 0 v
 refine⟨M'.1.other hgs hub h1 (by decide) (by decide) (by decide),M'.2.trans (KpG.grow hgs M'.1.box fun k hk=>?_) (.inl rfl)⟩
 cases hk
 exact .inr ⟨h1,_,_,hub,.inr ⟨_,rfl,.inl ⟨rfl,by decide,by decide⟩⟩⟩
set_option maxHeartbeats 8000000 in
theorem zgl (mb kb:Nat)(ub:Option Nat)(sh:Bool)(m:Mk)(u:List Nat)(vw vi vj:Value)(v:Val)(w:World)(h:MkAt mb sh m vw vi vj kb w)(hu:UnkO mb ub u w)(hv:ValOk v)(hub:v.op=2→∃ b,ub=some b)
  (hl:m.ins.length≤800000) (hn:0≤m.next∧m.next≤800000) (hul:u.length≤800000∧m.puts≤800000):
  Calls Tryz.prog 144 #[.pointer (some ⟨mb,0,none⟩),.agg #[.int .i64 v.op,.int .i64 v.n,.string v.s,.int .i64 v.b,.int .i64 v.c],uptr ub] w (qba mb kb ub sh (zak sh v m u) w):=by
 have B0:=(Below.refl w.heap.size w).alloc (Nat.le_refl _) (.cells #[.int .i64 v.op,.int .i64 v.n,.string v.s,.int .i64 v.b,.int .i64 v.c] 171)
 have HVB:=hid' (heap_alloc_new w (.cells #[.int .i64 v.op,.int .i64 v.n,.string v.s,.int .i64 v.b,.int .i64 v.c] 171))
 have HB0:=hid' B0
 have HM:=hid' (h.below B0)
 have HU:=hid' (hu.below B0)
 have HMB:=hid' h.lt
 have HVO:=hid' hv
 have HUB:=hid' hub
 have HN:=hid' (And.intro hl (And.intro hn hul))
 have HK:=hid' (KpG.of (mb:=mb) (kb:=kb) (ub:=ub) B0 (Nat.le_of_lt h.lt))
 obtain⟨up,hup⟩:∃ up,Hid (uptr ub=up):=⟨_,hid' rfl⟩
 rw[hup.out]
 obtain⟨vb,hvb⟩:∃ vb,Hid (w.heap.size=vb):=⟨_,hid' rfl⟩
 have HVM:=hid' (show mb<vb by rw[←hvb.out]; exact h.lt)
 rw[hvb.out] at HVB
 clear B0 h hu hv hub hl hn hul
 go_enter Tryz.func144,Tryz.ntmps144
 go_upto_region 1 with(fail)
 simp only[hvb.out]
 generalize World.alloc _ _=w1 at *
 have v0:=zaa HVB.out 0 _ rfl
 have v1:=zaa HVB.out 1 _ rfl
 have v2:=zaa HVB.out 2 _ rfl
 have v3:=zaa HVB.out 3 _ rfl
 have v4:=zaa HVB.out 4 _ rfl
 have c6:=zaa HM.out.box 6 _ rfl
 have c3:=zaa HM.out.box 3 _ rfl
 obtain⟨n,hn1,hn2⟩:=HM.out.kn
 have lk:∀ W:World,W.heap=w1.heap→(Instr.lookup 64 (.map (some kb)) (.agg #[.int .i64 v.op,.int .i64 v.n,.string v.s,.int .i64 v.b,.int .i64 v.c]) true).run Tryz.prog W=.ok (.tuple #[.int .i64 ((m.known v).getD 0),.bool (m.known v).isSome]) W:=fun W e=>(hn2.same (by rw[e])).lookV HVO.out
 have lkd:=lk w1.drew rfl
 clear lk
 go_upto_region 2 with(go_region)
 have c3':w1.drew.cell? ⟨mb,3,none⟩=some (.bool sh):=c3
 by_cases hf:sh=true∧∃ r,m.known v=some r
 ·obtain⟨rfl,r,hr⟩:=hf
  have HE:=hid' (show zak true v m u=(r,m,u) by unfold zak; rw[if_pos rfl,hr])
  rw[hr]
  go_wp2_with fail
  go_ret
  rw[HE.out]
  exact⟨rfl,⟨⟨_,_,_,_,HM.out.drew,.inl rfl⟩,HK.out.trans HM.out.kd (.inl rfl)⟩,HU.out.below (Below.refl _ w1).drew⟩
 ·have HE:=hid' (show zak sh v m u=(m.next,(m.reg.lay (v.ix m.next)).put v m.next,if v.op=2 then u++[m.ins.length] else u) by
   unfold zak
   cases sh with
   |false=>rfl
   |true=>
    cases hk:m.known v with
    |none=>rfl
    |some r=>exact absurd ⟨rfl,r,hk⟩ hf)
  have hg:((m.known v).isSome && sh)=false:=by
   cases sh with
   |false=>rw[Bool.and_false]
   |true=>
    cases hk:m.known v with
    |none=>rfl
    |some r=>exact absurd ⟨rfl,r,hk⟩ hf
  obtain⟨bk,hbk⟩:∃ b,Hid ((m.known v).isSome=b):=⟨_,hid' rfl⟩
  obtain⟨gd,hgd⟩:∃ g,Hid ((m.known v).getD 0=g):=⟨_,hid' rfl⟩
  rw[hbk.out,hgd.out]
  rw[hbk.out] at hg
  clear hf lkd
  have hgo:∀ P:Prop,(bk=true→sh=false→P)→(bk=false→P)→P:=fun P h1 h2=>by
   cases bk with
   |false=>exact h2 rfl
   |true=>exact h1 rfl (by simpa using hg)
  have HKD:=hid' (HK.out.trans (HM.out.kd (ub:=ub)) (.inl rfl))
  have HRG:=hid' (fun W (b:Below w1.heap.size w1 W)=>zin mb kb sh m vw vi vj W (HM.out.below b) (by have:=HN.out; omega))
  have HRV:=hid' (show ∀ a b:Value,True from fun _ _=>trivial)
  refine hgo _ (fun e1 e2=>?_) (fun e1=>?_)
  all_goals clear hgo
  all_goals first|(subst e1; subst e2)|subst e1
  all_goals go_upto_region 4 with(fail)
  all_goals clear hg c3' c3 c6
  all_goals go_wp2_with fail
  all_goals refine(HRG.out _ (Below.refl _ w1).drew).mono ?_
  all_goals rintro e w2 ⟨rfl,H2⟩
  all_goals
   have HV2:=hid' (H2.box (by have:=HVM.out; omega) (by decide) (by decide) (by decide) (show w1.drew.heap[vb]? = _ from HVB.out))
   have H2':=hid' H2
   have HU2:=hid' ((HU.out.below (Below.refl _ w1).drew).kp H2.kp)
   clear H2 v0 v1 v2 v3 v4 HRG
   have v0:=zaa HV2.out 0 _ rfl
   have v1:=zaa HV2.out 1 _ rfl
   have v2:=zaa HV2.out 2 _ rfl
   have v3:=zaa HV2.out 3 _ rfl
   have v4:=zaa HV2.out 4 _ rfl
   have B3:=(Below.refl w2.heap.size w2).alloc (Nat.le_refl _) (.cells #[.int .i64 v.op,.int .i64 m.next,.int .i64 v.b,.int .i64 v.c,.int .i64 v.n,.string v.s,.int .i64 0] 73)
   have HX3:=hid' (heap_alloc_new w2 (.cells #[.int .i64 v.op,.int .i64 m.next,.int .i64 v.b,.int .i64 v.c,.int .i64 v.n,.string v.s,.int .i64 0] 73))
   have HV3:=hid' (zad B3 HV2.out)
   have HU3:=hid' (HU2.out.below B3)
   have H3:=hid' (H2'.out.below B3)
   obtain⟨xb,hxb⟩:∃ xb,Hid (w2.heap.size=xb):=⟨_,hid' rfl⟩
   rw[hxb.out] at HX3
   have HXM:=hid' (show mb<xb by rw[←hxb.out]; have:=H2'.out.kp.bel.size; have:=HM.out.lt; exact Nat.lt_of_lt_of_le HM.out.lt H2'.out.kp.bel.size)
   clear B3
   go_upto_region 6 with(fail)
   simp only[hxb.out]
  all_goals
   clear v0 v1 v2 v3 v4 H2' HU2 HV2 HM HVB HU
   generalize hw3:World.alloc _ _=w3 at *
   clear hw3
   have e0:=zaa HV3.out 0 _ rfl
   have x0:=zaa HX3.out 0 _ rfl
   have x1:=zaa HX3.out 1 _ rfl
   have x2:=zaa HX3.out 2 _ rfl
   have x3:=zaa HX3.out 3 _ rfl
   have x4:=zaa HX3.out 4 _ rfl
   have x5:=zaa HX3.out 5 _ rfl
   have x6:=zaa HX3.out 6 _ rfl
   obtain⟨⟨vw3,vi3,vj3,kb3,m3,hk3⟩,hp3⟩:=H3.out
   have M3:=hid' m3
   have P3:=hid' (And.intro hk3 hp3)
   clear m3 hk3 hp3
   have hl3:m.reg.ins.length≤800000:=HN.out.1
   have HKW:=hid' (show KpG mb kb ub w w3 from HKD.out.trans P3.out.2.wk (.inl rfl))
   have HK3:=hid' (show kb3=kb∨w.heap.size≤kb3 from P3.out.1.imp id fun h=>Nat.le_trans HB0.out.size h)
   have HLY:=hid' (zdc mb kb3 _ m.reg vw3 vi3 vj3 (v.ix m.next) w3 M3.out (by omega))
   have HJP:=hid' (zcp mb kb3 _ m.reg vw3 vi3 vj3 (v.ix m.next) w3 M3.out (by omega))
   unfold Val.ix at HLY HJP
   go_upto_if 44 with(fail)
  ·go_cut [44] (fun b wx=>True∧∃ vw' vi' vj' kb',Hid (MkAt mb false (m.reg.lay (v.ix m.next)) vw' vi' vj' kb' wx∧(kb'=kb∨w.heap.size≤kb')∧KpG mb kb ub w wx∧UnkO mb ub (if v.op=2 then u++[m.ins.length] else u) wx∧wx.heap[vb]? = some (.cells #[.int .i64 v.op,.int .i64 v.n,.string v.s,.int .i64 v.b,.int .i64 v.c] 171 (0,0))))
   case first=>
    by_cases h2:v.op=2
    ·have g2:((v.op:Int) == 2)=true:=by simpa using h2
     obtain⟨b,rfl⟩:=HUB.out h2
     have hub:up=.pointer (some ⟨b,0,none⟩):=hup.out.symm
     subst hub
     obtain⟨⟨vu,fs,u1,u2,u3⟩,u4⟩:=HU3.out b rfl
     have H2:=hid' h2
     have HU4:=hid' (And.intro u1 (And.intro u2 (And.intro u3 u4)))
     have HFL:=hid' u2.1
     clear u1 u2 u3 u4 h2 x0 x1 x2 x3 x4 x5 x6 e0
     have hF0:=HU4.out.1
     go_upto_region 7 with(fail)
     refine zbu (fun W=>W.heap[b]? = some (.cells #[vu] 141 (0,0))) 10 [false,false,false,false,false,true,true,true,true,false,true] (by kernel_rfl) (by kernel_rfl) (by kernel_rfl) hF0 ?_
     clear hF0
     iterate 5
      apply zbi
      ·rfl
      ·intro W hW
       have q0:=zaa hW 0 _ rfl
       first|(go_simp; done)|(go_simp; with_reducible rfl)
      simp only[Act.put,List.setIfInBounds_toArray,List.set_cons_zero,List.set_cons_succ]
     have hml:=M3.out.drew
     refine zbg (v:=.agg #[.int .i64 v.op,.int .i64 m.next,.int .i64 v.b,.int .i64 v.c,.int .i64 v.n,.string v.s,.int .i64 0]) (w':=w3.drew) ?_ ?_ ?_ ?_
     ·rfl
     ·have x0:w3.drew.cell? ⟨xb,0,none⟩=some (.int .i64 v.op):=zaa HX3.out 0 _ rfl
      have x1:w3.drew.cell? ⟨xb,1,none⟩=some (.int .i64 m.next):=zaa HX3.out 1 _ rfl
      have x2:w3.drew.cell? ⟨xb,2,none⟩=some (.int .i64 v.b):=zaa HX3.out 2 _ rfl
      have x3:w3.drew.cell? ⟨xb,3,none⟩=some (.int .i64 v.c):=zaa HX3.out 3 _ rfl
      have x4:w3.drew.cell? ⟨xb,4,none⟩=some (.int .i64 v.n):=zaa HX3.out 4 _ rfl
      have x5:w3.drew.cell? ⟨xb,5,none⟩=some (.string v.s):=zaa HX3.out 5 _ rfl
      have x6:w3.drew.cell? ⟨xb,6,none⟩=some (.int .i64 0):=zaa HX3.out 6 _ rfl
      first|(go_simp; done)|(go_simp; with_reducible rfl)
     ·exact .inr HU4.out.1
     simp only[Act.put,List.setIfInBounds_toArray,List.set_cons_zero,List.set_cons_succ]
     refine zdt 106 #[.pointer (some ⟨mb,0,none⟩),.agg #[.int .i64 v.op,.int .i64 m.next,.int .i64 v.b,.int .i64 v.c,.int .i64 v.n,.string v.s,.int .i64 0]] (fun f w'=>JumpFn mb w' f m.reg.ins.length∧Lays mb kb3 none false (m.reg.lay (v.ix m.next)) w3.drew w') ?_ ?_ ?_ ?_
     ·rfl
     ·go_simp
     ·refine(zcp mb kb3 _ m.reg vw3 vi3 vj3 (v.ix m.next) w3.drew hml (by omega)).mono ?_
      rintro e w' ⟨f,h1,h2,h3⟩
      exact⟨f,h1,h2,h3⟩
     rintro f w4 ⟨⟨jb1,jb2,rfl,hjr⟩,hly⟩
     have hjf:JumpFn mb w4 (.func (.func 150) #[] #[.pointer (some ⟨jb1,0,none⟩),.pointer (some ⟨jb2,0,none⟩)]) m.reg.ins.length:=⟨jb1,jb2,rfl,hjr⟩
     have HJ4:=hid' hjf
     have HL4:=hid' hly
     have hb4:=hly.box (k:=b) (by have:=HU4.out.2.2.2; omega) (by decide) (by decide) (by decide) HU4.out.1
     have hrow4:w4.ownsRow (mb+1) 1 1 vu u.length fs:=by
      refine⟨HU4.out.2.1.1,?_⟩
      rcases HU4.out.2.1.2 with h5|⟨g,cap,cur,e1,e2,e3,e4⟩
      ·exact .inl h5
      ·exact .inr ⟨g,cap,cur,e1,e2,hly.box (k:=g) (by omega) (by decide) (by decide) (by decide) e3,e4⟩
     have hj4:∀(i:Nat) p,u[i]? = some p→∃ f,fs[i]? = some f∧JumpFn mb w4 f p:=fun i p hp=>by
      obtain⟨f',h1,h2⟩:=HU4.out.2.2.1 i p hp
      exact⟨f',h1,(h2.below (Below.refl _ w3).drew).kp hly.kp (fun u e=>by cases e)⟩
     refine⟨.inr hb4,?_⟩
     simp only[Act.put,List.setIfInBounds_toArray,List.set_cons_zero,List.set_cons_succ]
     have hba:=(Below.refl w4.heap.size w4).alloc (Nat.le_refl _) (.cells #[(.func (.func 150) #[] #[.pointer (some ⟨jb1,0,none⟩),.pointer (some ⟨jb2,0,none⟩)])] 1)
     have hnn:=heap_alloc_new w4 (.cells #[(.func (.func 150) #[] #[.pointer (some ⟨jb1,0,none⟩),.pointer (some ⟨jb2,0,none⟩)])] 1)
     have hb5:=zad hba hb4
     refine zbg (v:=.slice (some ⟨w4.heap.size,0,none⟩) 1 1) (w':=w4.alloc (.cells #[(.func (.func 150) #[] #[.pointer (some ⟨jb1,0,none⟩),.pointer (some ⟨jb2,0,none⟩)])] 1)) ?_ ?_ ?_ ?_
     ·rfl
     ·go_simp
     ·exact .inr hb5
     simp only[Act.put,List.setIfInBounds_toArray,List.set_cons_zero,List.set_cons_succ]
     have hj5:∀(i:Nat) p,u[i]? = some p→∃ f',fs[i]? = some f'∧JumpFn mb (w4.alloc (.cells #[(.func (.func 150) #[] #[.pointer (some ⟨jb1,0,none⟩),.pointer (some ⟨jb2,0,none⟩)])] 1)) f' p:=fun i p hp=>by
      obtain⟨f',h1,h2⟩:=hj4 i p hp
      exact⟨f',h1,h2.below hba⟩
     have hjf5:=hjf.below hba
     have hL5:=hly.below hba
     have hlt5:mb<(w4.alloc (.cells #[(.func (.func 150) #[] #[.pointer (some ⟨jb1,0,none⟩),.pointer (some ⟨jb2,0,none⟩)])] 1)).heap.size:=by have:=zac hb5; have:=HU4.out.2.2.2; omega
     have hrow5:=World.ownsRow.alloc hrow4 (.cells #[(.func (.func 150) #[] #[.pointer (some ⟨jb1,0,none⟩),.pointer (some ⟨jb2,0,none⟩)])] 1)
     obtain⟨w4s,hw4s⟩:∃ k,w4.heap.size=k:=⟨_,rfl⟩
     rw[hw4s] at hnn ⊢
     clear hba hb4 hj4 hrow4 hw4s HJ4 HL4 hjf hly
     generalize World.alloc w4 _=w5 at *
     obtain⟨ti,ti1,ti2,ti3,ti4⟩:=info_split znb
     have hul:=HN.out.2.2.1
     refine zef _ _ 141 rfl rfl (mb+1) 1 ti _ 1 8 Tryz.underlying141 ti1 ti2 ti3 ti4 rfl (by decide) vu _ _ rfl hrow5 ⟨w4s,0,none⟩ 1 1 [(.func (.func 150) #[] #[.pointer (some ⟨jb1,0,none⟩),.pointer (some ⟨jb2,0,none⟩)])] rfl rfl
      (fun j y hj=>?_) (fun y hy=>?_) (by decide) (by unfold maxLen; omega) (by omega) (by omega) (fun g cap w6 hown hgr hat hlt=>?_)
     ·rw[add_gen,Nat.zero_add]
      unfold World.cell?
      simp only[hnn]
      simpa using hj
     ·simp only[List.mem_cons,List.not_mem_nil,or_false] at hy
      subst hy
      rfl
     have hpush:=UnkAt.push (W:=w5) HU4.out.2.2.2 hb5 hrow5 hj5 hjf5 hown hgr
     refine⟨.inr hpush.2,?_⟩
     simp only[Act.put,List.setIfInBounds_toArray,List.set_cons_zero,List.set_cons_succ]
     obtain⟨⟨vw5,vi5,vj5,kb5,M5,hk5⟩,P5⟩:=hL5
     have hk:=zia (v:=.slice (some ⟨g,0,none⟩) (u.length+1) cap) M5 HU4.out.2.2.2 hb5 hpush.2 hrow5 hgr
     have HFIN:=hid' (show MkAt mb false (m.reg.lay (v.ix m.next)) vw5 vi5 vj5 kb5 (w6.setCell ⟨b,0,none⟩ (.slice (some ⟨g,0,none⟩) (u.length+1) cap))∧(kb5=kb∨w.heap.size≤kb5)∧KpG mb kb (some b) w (w6.setCell ⟨b,0,none⟩ (.slice (some ⟨g,0,none⟩) (u.length+1) cap))∧UnkAt mb b (u++[m.ins.length]) (w6.setCell ⟨b,0,none⟩ (.slice (some ⟨g,0,none⟩) (u.length+1) cap)) by
      have hkk:kb5=kb∨w.heap.size≤kb5:=by
       rcases hk5 with rfl|h
       ·exact HK3.out
       ·exact .inr (Nat.le_trans HKW.out.bel.size h)
      exact⟨hk.1,hkk,((HKW.out.trans (M3.out.kd) HK3.out).trans P5.wk HK3.out).trans hk.2 hkk,hpush.1⟩)
     have HV6:=hid' (show(w6.setCell ⟨b,0,none⟩ (.slice (some ⟨g,0,none⟩) (u.length+1) cap)).heap[vb]? = some (.cells #[.int .i64 v.op,.int .i64 v.n,.string v.s,.int .i64 v.b,.int .i64 v.c] 171 (0,0)) by
      have e5:=P5.box (k:=vb) (by have:=HVM.out; omega) (fun u e=>by cases e) (by decide) (by decide) (by decide) (show w3.drew.heap[vb]? = _ from HV3.out)
      exact hk.2.box (k:=vb) (by have:=HVM.out; omega) (fun u e=>by
       cases e
       refine⟨?_,by decide⟩
       rintro rfl
       rw[hb5] at e5
       simp at e5) (by decide) (by decide) (by decide) e5)
     have c0:=zaa hpush.2 0 _ rfl
     have f0:=frozen_of (o:=0) hpush.2
     have hb6:=hpush.2
     clear hk hpush hown hgr hat hlt hrow5 hj5 hjf5 hb5 M5 hk5 P5
     apply zbi
     ·rfl
     ·intro W hW
      have q0:=zaa hW 0 _ rfl
      first|(go_simp; done)|(go_simp; with_reducible rfl)
     simp only[Act.put,List.setIfInBounds_toArray,List.set_cons_zero,List.set_cons_succ]
     refine zdm (w':=w6.setCell ⟨b,0,none⟩ (.slice (some ⟨g,0,none⟩) (u.length+1) cap)) ?_ ?_ ?_ ?_
     ·rfl
     ·go_simp
     ·exact .inl (Nat.le_refl _)
     refine zcu ?_
     clear c0 f0 hb6
     generalize World.setCell _ _ _=w7 at *
     go_wp2_with fail
     go_meet
     refine⟨trivial,_,_,_,_,hid' ⟨HFIN.out.1,HFIN.out.2.1,HFIN.out.2.2.1,?_,HV6.out⟩⟩
     rw[if_pos H2.out]
     intro b' e
     cases e
     exact HFIN.out.2.2.2
    ·have g2:((v.op:Int) == 2)=false:=by simpa using h2
     have H2:=hid' h2
     clear h2
     go_wp2_with fail
     refine HLY.out.mono ?_
     rintro e w4 ⟨rfl,h4⟩
     obtain⟨⟨vw4,vi4,vj4,kb4,M4,hk4⟩,P4⟩:=h4
     have HFIN:=hid' (show MkAt mb false (m.reg.lay (v.ix m.next)) vw4 vi4 vj4 kb4 w4∧(kb4=kb∨w.heap.size≤kb4)∧KpG mb kb ub w w4∧UnkO mb ub (if v.op=2 then u++[m.ins.length] else u) w4∧w4.heap[vb]? = some (.cells #[.int .i64 v.op,.int .i64 v.n,.string v.s,.int .i64 v.b,.int .i64 v.c] 171 (0,0)) by
      have hkk:kb4=kb∨w.heap.size≤kb4:=by
       rcases hk4 with rfl|h
       ·exact HK3.out
       ·exact .inr (Nat.le_trans HKW.out.bel.size h)
      exact⟨M4,hkk,HKW.out.trans P4.wk HK3.out,by rw[if_neg (by simpa using H2.out)]; exact HU3.out.kp P4,P4.box (k:=vb) (by have:=HVM.out; omega) (fun u e=>by cases e) (by decide) (by decide) (by decide) HV3.out⟩)
     clear M4 hk4 P4 x0 x1 x2 x3 x4 x5 x6 e0
     go_wp2_with fail
     go_meet
     exact⟨trivial,_,_,_,_,HFIN⟩
   case rest=>
    obtain⟨-,vw9,vi9,vj9,kb9,H9⟩:=hcut
    clear x0 x1 x2 x3 x4 x5 x6 e0
    obtain⟨n9,hn9,hk9⟩:=H9.out.1.kn
    have hnx:=HN.out.2.1
    obtain⟨w10,hrun,hkn,hgr⟩:=Kn.put (m:=m.reg.lay (v.ix m.next)) (W:=wc.drew) (hk9.same rfl) (by have:=HN.out.2.2.2; have h:(m.reg.lay (v.ix m.next)).puts=m.puts:=rfl; unfold maxLen; omega) HVO.out (r:=m.next) (by unfold I64; omega)
    unfold valV at hrun
    have HF9:=hid' (show MkAt mb false ((m.reg.lay (v.ix m.next)).put v m.next) vw9 vi9 vj9 kb9 w10∧KpG mb kb9 none wc.drew w10 from MkAt.known (W:=wc.drew) (W':=w10) H9.out.1.drew hgr (n:=n9+1) (q:=m.puts+1) (Nat.succ_le_succ hn9) hkn)
    have c6:=zaa H9.out.1.box 6 _ rfl
    have v0:=zaa H9.out.2.2.2.2 0 _ rfl
    have v1:=zaa H9.out.2.2.2.2 1 _ rfl
    have v2:=zaa H9.out.2.2.2.2 2 _ rfl
    have v3:=zaa H9.out.2.2.2.2 3 _ rfl
    have v4:=zaa H9.out.2.2.2.2 4 _ rfl
    clear hkn hgr hk9
    go_upto_region 9 with(fail)
    go_still_tail 6,(by kernel_rfl)
    change wpList _ _ _ _ _ wc.drew
    go_wp2_with fail
    go_ret
    rw[HE.out]
    refine⟨rfl,⟨⟨_,_,_,_,HF9.out.1,H9.out.2.1⟩,(H9.out.2.2.1.trans H9.out.1.kd H9.out.2.1).trans HF9.out.2.wk H9.out.2.1⟩,?_⟩
    exact(H9.out.2.2.2.1.below (Below.refl _ wc).drew).kp HF9.out.2
  ·go_cut [44] (fun b wx=>True∧∃ vw' vi' vj' kb',Hid (MkAt mb sh (m.reg.lay (v.ix m.next)) vw' vi' vj' kb' wx∧(kb'=kb∨w.heap.size≤kb')∧KpG mb kb ub w wx∧UnkO mb ub (if v.op=2 then u++[m.ins.length] else u) wx∧wx.heap[vb]? = some (.cells #[.int .i64 v.op,.int .i64 v.n,.string v.s,.int .i64 v.b,.int .i64 v.c] 171 (0,0))))
   case first=>
    by_cases h2:v.op=2
    ·have g2:((v.op:Int) == 2)=true:=by simpa using h2
     obtain⟨b,rfl⟩:=HUB.out h2
     have hub:up=.pointer (some ⟨b,0,none⟩):=hup.out.symm
     subst hub
     obtain⟨⟨vu,fs,u1,u2,u3⟩,u4⟩:=HU3.out b rfl
     have H2:=hid' h2
     have HU4:=hid' (And.intro u1 (And.intro u2 (And.intro u3 u4)))
     have HFL:=hid' u2.1
     clear u1 u2 u3 u4 h2 x0 x1 x2 x3 x4 x5 x6 e0
     have hF0:=HU4.out.1
     go_upto_region 7 with(fail)
     refine zbu (fun W=>W.heap[b]? = some (.cells #[vu] 141 (0,0))) 10 [false,false,false,false,false,true,true,true,true,false,true] (by kernel_rfl) (by kernel_rfl) (by kernel_rfl) hF0 ?_
     clear hF0
     iterate 5
      apply zbi
      ·rfl
      ·intro W hW
       have q0:=zaa hW 0 _ rfl
       first|(go_simp; done)|(go_simp; with_reducible rfl)
      simp only[Act.put,List.setIfInBounds_toArray,List.set_cons_zero,List.set_cons_succ]
     have hml:=M3.out.drew
     refine zbg (v:=.agg #[.int .i64 v.op,.int .i64 m.next,.int .i64 v.b,.int .i64 v.c,.int .i64 v.n,.string v.s,.int .i64 0]) (w':=w3.drew) ?_ ?_ ?_ ?_
     ·rfl
     ·have x0:w3.drew.cell? ⟨xb,0,none⟩=some (.int .i64 v.op):=zaa HX3.out 0 _ rfl
      have x1:w3.drew.cell? ⟨xb,1,none⟩=some (.int .i64 m.next):=zaa HX3.out 1 _ rfl
      have x2:w3.drew.cell? ⟨xb,2,none⟩=some (.int .i64 v.b):=zaa HX3.out 2 _ rfl
      have x3:w3.drew.cell? ⟨xb,3,none⟩=some (.int .i64 v.c):=zaa HX3.out 3 _ rfl
      have x4:w3.drew.cell? ⟨xb,4,none⟩=some (.int .i64 v.n):=zaa HX3.out 4 _ rfl
      have x5:w3.drew.cell? ⟨xb,5,none⟩=some (.string v.s):=zaa HX3.out 5 _ rfl
      have x6:w3.drew.cell? ⟨xb,6,none⟩=some (.int .i64 0):=zaa HX3.out 6 _ rfl
      first|(go_simp; done)|(go_simp; with_reducible rfl)
     ·exact .inr HU4.out.1
     simp only[Act.put,List.setIfInBounds_toArray,List.set_cons_zero,List.set_cons_succ]
     refine zdt 106 #[.pointer (some ⟨mb,0,none⟩),.agg #[.int .i64 v.op,.int .i64 m.next,.int .i64 v.b,.int .i64 v.c,.int .i64 v.n,.string v.s,.int .i64 0]] (fun f w'=>JumpFn mb w' f m.reg.ins.length∧Lays mb kb3 none sh (m.reg.lay (v.ix m.next)) w3.drew w') ?_ ?_ ?_ ?_
     ·rfl
     ·go_simp
     ·refine(zcp mb kb3 _ m.reg vw3 vi3 vj3 (v.ix m.next) w3.drew hml (by omega)).mono ?_
      rintro e w' ⟨f,h1,h2,h3⟩
      exact⟨f,h1,h2,h3⟩
     rintro f w4 ⟨⟨jb1,jb2,rfl,hjr⟩,hly⟩
     have hjf:JumpFn mb w4 (.func (.func 150) #[] #[.pointer (some ⟨jb1,0,none⟩),.pointer (some ⟨jb2,0,none⟩)]) m.reg.ins.length:=⟨jb1,jb2,rfl,hjr⟩
     have HJ4:=hid' hjf
     have HL4:=hid' hly
     have hb4:=hly.box (k:=b) (by have:=HU4.out.2.2.2; omega) (by decide) (by decide) (by decide) HU4.out.1
     have hrow4:w4.ownsRow (mb+1) 1 1 vu u.length fs:=by
      refine⟨HU4.out.2.1.1,?_⟩
      rcases HU4.out.2.1.2 with h5|⟨g,cap,cur,e1,e2,e3,e4⟩
      ·exact .inl h5
      ·exact .inr ⟨g,cap,cur,e1,e2,hly.box (k:=g) (by omega) (by decide) (by decide) (by decide) e3,e4⟩
     have hj4:∀(i:Nat) p,u[i]? = some p→∃ f,fs[i]? = some f∧JumpFn mb w4 f p:=fun i p hp=>by
      obtain⟨f',h1,h2⟩:=HU4.out.2.2.1 i p hp
      exact⟨f',h1,(h2.below (Below.refl _ w3).drew).kp hly.kp (fun u e=>by cases e)⟩
     refine⟨.inr hb4,?_⟩
     simp only[Act.put,List.setIfInBounds_toArray,List.set_cons_zero,List.set_cons_succ]
     have hba:=(Below.refl w4.heap.size w4).alloc (Nat.le_refl _) (.cells #[(.func (.func 150) #[] #[.pointer (some ⟨jb1,0,none⟩),.pointer (some ⟨jb2,0,none⟩)])] 1)
     have hnn:=heap_alloc_new w4 (.cells #[(.func (.func 150) #[] #[.pointer (some ⟨jb1,0,none⟩),.pointer (some ⟨jb2,0,none⟩)])] 1)
     have hb5:=zad hba hb4
     refine zbg (v:=.slice (some ⟨w4.heap.size,0,none⟩) 1 1) (w':=w4.alloc (.cells #[(.func (.func 150) #[] #[.pointer (some ⟨jb1,0,none⟩),.pointer (some ⟨jb2,0,none⟩)])] 1)) ?_ ?_ ?_ ?_
     ·rfl
     ·go_simp
     ·exact .inr hb5
     simp only[Act.put,List.setIfInBounds_toArray,List.set_cons_zero,List.set_cons_succ]
     have hj5:∀(i:Nat) p,u[i]? = some p→∃ f',fs[i]? = some f'∧JumpFn mb (w4.alloc (.cells #[(.func (.func 150) #[] #[.pointer (some ⟨jb1,0,none⟩),.pointer (some ⟨jb2,0,none⟩)])] 1)) f' p:=fun i p hp=>by
      obtain⟨f',h1,h2⟩:=hj4 i p hp
      exact⟨f',h1,h2.below hba⟩
     have hjf5:=hjf.below hba
     have hL5:=hly.below hba
     have hlt5:mb<(w4.alloc (.cells #[(.func (.func 150) #[] #[.pointer (some ⟨jb1,0,none⟩),.pointer (some ⟨jb2,0,none⟩)])] 1)).heap.size:=by have:=zac hb5; have:=HU4.out.2.2.2; omega
     have hrow5:=World.ownsRow.alloc hrow4 (.cells #[(.func (.func 150) #[] #[.pointer (some ⟨jb1,0,none⟩),.pointer (some ⟨jb2,0,none⟩)])] 1)
     obtain⟨w4s,hw4s⟩:∃ k,w4.heap.size=k:=⟨_,rfl⟩
     rw[hw4s] at hnn ⊢
     clear hba hb4 hj4 hrow4 hw4s HJ4 HL4 hjf hly
     generalize World.alloc w4 _=w5 at *
     obtain⟨ti,ti1,ti2,ti3,ti4⟩:=info_split znb
     have hul:=HN.out.2.2.1
     refine zef _ _ 141 rfl rfl (mb+1) 1 ti _ 1 8 Tryz.underlying141 ti1 ti2 ti3 ti4 rfl (by decide) vu _ _ rfl hrow5 ⟨w4s,0,none⟩ 1 1 [(.func (.func 150) #[] #[.pointer (some ⟨jb1,0,none⟩),.pointer (some ⟨jb2,0,none⟩)])] rfl rfl
      (fun j y hj=>?_) (fun y hy=>?_) (by decide) (by unfold maxLen; omega) (by omega) (by omega) (fun g cap w6 hown hgr hat hlt=>?_)
     ·rw[add_gen,Nat.zero_add]
      unfold World.cell?
      simp only[hnn]
      simpa using hj
     ·simp only[List.mem_cons,List.not_mem_nil,or_false] at hy
      subst hy
      rfl
     have hpush:=UnkAt.push (W:=w5) HU4.out.2.2.2 hb5 hrow5 hj5 hjf5 hown hgr
     refine⟨.inr hpush.2,?_⟩
     simp only[Act.put,List.setIfInBounds_toArray,List.set_cons_zero,List.set_cons_succ]
     obtain⟨⟨vw5,vi5,vj5,kb5,M5,hk5⟩,P5⟩:=hL5
     have hk:=zia (v:=.slice (some ⟨g,0,none⟩) (u.length+1) cap) M5 HU4.out.2.2.2 hb5 hpush.2 hrow5 hgr
     have HFIN:=hid' (show MkAt mb sh (m.reg.lay (v.ix m.next)) vw5 vi5 vj5 kb5 (w6.setCell ⟨b,0,none⟩ (.slice (some ⟨g,0,none⟩) (u.length+1) cap))∧(kb5=kb∨w.heap.size≤kb5)∧KpG mb kb (some b) w (w6.setCell ⟨b,0,none⟩ (.slice (some ⟨g,0,none⟩) (u.length+1) cap))∧UnkAt mb b (u++[m.ins.length]) (w6.setCell ⟨b,0,none⟩ (.slice (some ⟨g,0,none⟩) (u.length+1) cap)) by
      have hkk:kb5=kb∨w.heap.size≤kb5:=by
       rcases hk5 with rfl|h
       ·exact HK3.out
       ·exact .inr (Nat.le_trans HKW.out.bel.size h)
      exact⟨hk.1,hkk,((HKW.out.trans (M3.out.kd) HK3.out).trans P5.wk HK3.out).trans hk.2 hkk,hpush.1⟩)
     have HV6:=hid' (show(w6.setCell ⟨b,0,none⟩ (.slice (some ⟨g,0,none⟩) (u.length+1) cap)).heap[vb]? = some (.cells #[.int .i64 v.op,.int .i64 v.n,.string v.s,.int .i64 v.b,.int .i64 v.c] 171 (0,0)) by
      have e5:=P5.box (k:=vb) (by have:=HVM.out; omega) (fun u e=>by cases e) (by decide) (by decide) (by decide) (show w3.drew.heap[vb]? = _ from HV3.out)
      exact hk.2.box (k:=vb) (by have:=HVM.out; omega) (fun u e=>by
       cases e
       refine⟨?_,by decide⟩
       rintro rfl
       rw[hb5] at e5
       simp at e5) (by decide) (by decide) (by decide) e5)
     have c0:=zaa hpush.2 0 _ rfl
     have f0:=frozen_of (o:=0) hpush.2
     have hb6:=hpush.2
     clear hk hpush hown hgr hat hlt hrow5 hj5 hjf5 hb5 M5 hk5 P5
     apply zbi
     ·rfl
     ·intro W hW
      have q0:=zaa hW 0 _ rfl
      first|(go_simp; done)|(go_simp; with_reducible rfl)
     simp only[Act.put,List.setIfInBounds_toArray,List.set_cons_zero,List.set_cons_succ]
     refine zdm (w':=w6.setCell ⟨b,0,none⟩ (.slice (some ⟨g,0,none⟩) (u.length+1) cap)) ?_ ?_ ?_ ?_
     ·rfl
     ·go_simp
     ·exact .inl (Nat.le_refl _)
     refine zcu ?_
     clear c0 f0 hb6
     generalize World.setCell _ _ _=w7 at *
     go_wp2_with fail
     go_meet
     refine⟨trivial,_,_,_,_,hid' ⟨HFIN.out.1,HFIN.out.2.1,HFIN.out.2.2.1,?_,HV6.out⟩⟩
     rw[if_pos H2.out]
     intro b' e
     cases e
     exact HFIN.out.2.2.2
    ·have g2:((v.op:Int) == 2)=false:=by simpa using h2
     have H2:=hid' h2
     clear h2
     go_wp2_with fail
     refine HLY.out.mono ?_
     rintro e w4 ⟨rfl,h4⟩
     obtain⟨⟨vw4,vi4,vj4,kb4,M4,hk4⟩,P4⟩:=h4
     have HFIN:=hid' (show MkAt mb sh (m.reg.lay (v.ix m.next)) vw4 vi4 vj4 kb4 w4∧(kb4=kb∨w.heap.size≤kb4)∧KpG mb kb ub w w4∧UnkO mb ub (if v.op=2 then u++[m.ins.length] else u) w4∧w4.heap[vb]? = some (.cells #[.int .i64 v.op,.int .i64 v.n,.string v.s,.int .i64 v.b,.int .i64 v.c] 171 (0,0)) by
      have hkk:kb4=kb∨w.heap.size≤kb4:=by
       rcases hk4 with rfl|h
       ·exact HK3.out
       ·exact .inr (Nat.le_trans HKW.out.bel.size h)
      exact⟨M4,hkk,HKW.out.trans P4.wk HK3.out,by rw[if_neg (by simpa using H2.out)]; exact HU3.out.kp P4,P4.box (k:=vb) (by have:=HVM.out; omega) (fun u e=>by cases e) (by decide) (by decide) (by decide) HV3.out⟩)
     clear M4 hk4 P4 x0 x1 x2 x3 x4 x5 x6 e0
     go_wp2_with fail
     go_meet
     exact⟨trivial,_,_,_,_,HFIN⟩
   case rest=>
    obtain⟨-,vw9,vi9,vj9,kb9,H9⟩:=hcut
    clear x0 x1 x2 x3 x4 x5 x6 e0
    obtain⟨n9,hn9,hk9⟩:=H9.out.1.kn
    have hnx:=HN.out.2.1
    obtain⟨w10,hrun,hkn,hgr⟩:=Kn.put (m:=m.reg.lay (v.ix m.next)) (W:=wc.drew) (hk9.same rfl) (by have:=HN.out.2.2.2; have h:(m.reg.lay (v.ix m.next)).puts=m.puts:=rfl; unfold maxLen; omega) HVO.out (r:=m.next) (by unfold I64; omega)
    unfold valV at hrun
    have HF9:=hid' (show MkAt mb sh ((m.reg.lay (v.ix m.next)).put v m.next) vw9 vi9 vj9 kb9 w10∧KpG mb kb9 none wc.drew w10 from MkAt.known (W:=wc.drew) (W':=w10) H9.out.1.drew hgr (n:=n9+1) (q:=m.puts+1) (Nat.succ_le_succ hn9) hkn)
    have c6:=zaa H9.out.1.box 6 _ rfl
    have v0:=zaa H9.out.2.2.2.2 0 _ rfl
    have v1:=zaa H9.out.2.2.2.2 1 _ rfl
    have v2:=zaa H9.out.2.2.2.2 2 _ rfl
    have v3:=zaa H9.out.2.2.2.2 3 _ rfl
    have v4:=zaa H9.out.2.2.2.2 4 _ rfl
    clear hkn hgr hk9
    go_upto_region 9 with(fail)
    go_still_tail 6,(by kernel_rfl)
    change wpList _ _ _ _ _ wc.drew
    go_wp2_with fail
    go_ret
    rw[HE.out]
    refine⟨rfl,⟨⟨_,_,_,_,HF9.out.1,H9.out.2.1⟩,(H9.out.2.2.1.trans H9.out.1.kd H9.out.2.1).trans HF9.out.2.wk H9.out.2.1⟩,?_⟩
    exact(H9.out.2.2.2.1.below (Below.refl _ wc).drew).kp HF9.out.2
end Gf
end
end Go.Proofs.YtanlmbbalamgkaaGreatDoor
