/- Proved: lemmas and contracts of the functions that the law reaches, part 30 of 35: GfRec2. Conditions: as each states. -/
import Derived.Test.YtanlmbbalamgkaaGreatDoorVmp28
namespace Go.Proofs.YtanlmbbalamgkaaGreatDoor
set_option linter.unusedVariables false
set_option linter.unusedSimpArgs false
section
open Go.RowKit
open Rw
set_option maxRecDepth 100000
namespace Gf
def zsh (mb kb:Nat)(ub:Option Nat)(sh:Bool)(o:Ob)(w:World)(e:Ending)(w':World):Prop:=e=.returned (.int .i64 o.1)∧Lays mb kb ub sh o.2.1 w w'∧UnkO mb ub o.2.2 w'
theorem Kn.lookV {W:World}{b n:Nat}{k:Val→Option Int}(h:Kn W b n k){v:Val}(hv:ValOk v):
  (Instr.lookup 64 (.map (some b)) (.agg #[.int .i64 v.op,.int .i64 v.n,.string v.s,.int .i64 v.b,.int .i64 v.c]) true).run Tryz.prog W=.ok (.tuple #[.int .i64 ((k v).getD 0),.bool (k v).isSome]) W:=h.look hv
theorem UnkAt.push {mb ub:Nat}{u:List Nat}{W W':World}{vu:Value}{fs:List Value}{p:Nat}{f:Value}{g cap:Nat}(h1:mb<ub)(e1:W.heap[ub]? = some (.cells #[vu] 141 (0,0)))
  (A0:W.ownsRow (mb+1) 1 1 vu u.length fs) (hj:∀(i:Nat) p,u[i]? = some p→∃ f,fs[i]? = some f∧JumpFn mb W f p) (hf:JumpFn mb W f p)
  (A1:W'.ownsRow (mb+1) 1 1 (.slice (some ⟨g,0,none⟩) (u.length+1) cap) (u.length+1) (fs++[f])) (hg:W.grownBy W' vu.ownBlock):
  UnkAt mb ub (u++[p]) (W'.setCell ⟨ub,0,none⟩ (.slice (some ⟨g,0,none⟩) (u.length+1) cap))∧W'.heap[ub]? = some (.cells #[vu] 141 (0,0)):=by
 have A2:W'.heap[ub]? = some (.cells #[vu] 141 (0,0)):=(hg.block ub (af e1) (fun e=>by
  obtain⟨-,cur,e2⟩:=ei A0 e.symm;rw[e1] at e2;simp at e2)).trans e1
 have A9:=grown_set W' ub 0 (.slice (some ⟨g,0,none⟩) (u.length+1) cap);have hJ:∀ f p,JumpFn mb W f p→JumpFn mb (W'.setCell ⟨ub,0,none⟩ (.slice (some ⟨g,0,none⟩) (u.length+1) cap)) f p:=by
  rintro f p ⟨b1,b2,rfl,h2,h3,h4,h5⟩;have hk:∀(b:Nat) (cur:Array Value) (t:TypeId),W.heap[b]? = some (.cells cur t (0,0))→t≠1→t≠141→(W'.setCell ⟨ub,0,none⟩ (.slice (some ⟨g,0,none⟩) (u.length+1) cap)).heap[b]? = some (.cells cur t (0,0)):=by
   intro b cur t e A5 A4;have e3:=(hg.block b (af e) (fun e4=>by
    obtain⟨-,cur',e2⟩:=ei A0 e4.symm;rw[e] at e2;simp at e2;exact A5 e2.2)).trans e
   refine(Below.heap_setCell W' ⟨ub,0,none⟩ _ b (fun e5=>?_)).trans e3;rw[show b=ub from e5,A2] at e3;simp at e3;exact A4 e3.2.symm
  exact⟨b1,b2,rfl,h2,h3,hk _ _ _ h4 (by decide) (by decide),hk _ _ _ h5 (by decide) (by decide)⟩
 have A6:∀ k,Value.ownBlock (.slice (some ⟨g,0,none⟩) (u.length+1) cap)=some k→k≠ub:=by
  rintro k hk rfl;obtain⟨-,cur,e2⟩:=ei A1 hk;rw[A2] at e2;simp at e2
 refine⟨⟨⟨.slice (some ⟨g,0,none⟩) (u.length+1) cap,fs++[f],heap_setCell_same W' ub 0 _ _ _ A2,?_,fun i q hq=>?_⟩,h1⟩,A2⟩
 ·have:=World.ownsRow.kept A1 A9 (.inr fun e=>A6 _ e rfl);rw[List.length_append];exact this
 ·have A3:fs.length=u.length:=by have:=A0.1; omega
  by_cases hi:i<u.length
  ·rw[List.getElem?_append_left hi] at hq;obtain⟨f',B0,A7⟩:=hj i q hq;exact⟨f',by rw[List.getElem?_append_left (by omega)]; exact B0,hJ _ _ A7⟩
  ·have A8:i=u.length:=by
    have:=(List.getElem?_eq_some_iff.1 hq).1;simp at this;omega
   subst A8;simp at hq;subst hq;exact⟨f,by rw[List.getElem?_append_right (by omega),A3]; simp,hJ _ _ hf⟩
theorem tj {mb ub:Nat}{sh:Bool}{m:Mk}{vw vi vj:Value}{kb:Nat}{n:Nat}{W W':World}{vu v:Value}{fs:List Value}(M:MkAt mb sh m vw vi vj kb W)(h1:mb<ub)(e1:W.heap[ub]? = some (.cells #[vu] 141 (0,0)))
  (A1:W'.heap[ub]? = some (.cells #[vu] 141 (0,0))) (A0:W.ownsRow (mb+1) 1 1 vu n fs) (hg:W.grownBy W' vu.ownBlock):
  MkAt mb sh m vw vi vj kb (W'.setCell ⟨ub,0,none⟩ v)∧KpG mb kb (some ub) W (W'.setCell ⟨ub,0,none⟩ v):=by
 have M':MkAt mb sh m vw vi vj kb W'∧KpG mb kb (some ub) W W':=by
  rcases hv:vu.ownBlock with _|k
  ·rw[hv] at hg;have hb:Below W.heap.size W W':=⟨hg.os,hg.tape,hg.output,hg.size,fun k hk=>hg.block k hk (by simp)⟩
   exact⟨M.below hb,KpG.of hb (Nat.le_of_lt M.lt)⟩
  ·obtain⟨h2,cur,e2⟩:=ei A0 hv;rw[hv] at hg;refine⟨M.other hg e2 h2 (by decide) (by decide) (by decide),KpG.grow hg M.box fun k' hk=>?_⟩;cases hk;exact .inr ⟨h2,cur,_,e2,.inr ⟨ub,rfl,.inr rfl⟩⟩
 have A2:=grown_set W' ub 0 v;refine⟨M'.1.other A2 A1 h1 (by decide) (by decide) (by decide),M'.2.trans (KpG.grow A2 M'.1.box fun k hk=>?_) (.inl rfl)⟩;cases hk;exact .inr ⟨h1,_,_,A1,.inr ⟨_,rfl,.inl ⟨rfl,by decide,by decide⟩⟩⟩
set_option maxHeartbeats 8000000 in
theorem qo (mb kb:Nat)(ub:Option Nat)(sh:Bool)(m:Mk)(u:List Nat)(vw vi vj:Value)(v:Val)(w:World)(h:MkAt mb sh m vw vi vj kb w)(hu:UnkO mb ub u w)(hv:ValOk v)(D1:v.op=2→∃ b,ub=some b)
  (hl:m.ins.length≤800000) (hn:0≤m.next∧m.next≤800000) (E5:u.length≤800000∧m.puts≤800000):
  Calls Tryz.prog 144 #[.pointer (some ⟨mb,0,none⟩),.agg #[.int .i64 v.op,.int .i64 v.n,.string v.s,.int .i64 v.b,.int .i64 v.c],my ub] w (zsh mb kb ub sh (au sh v m u) w):=by
 have B0:=(Below.refl w.heap.size w).alloc (Nat.le_refl _) (.cells #[.int .i64 v.op,.int .i64 v.n,.string v.s,.int .i64 v.b,.int .i64 v.c] 171);have C2:=aa (heap_alloc_new w (.cells #[.int .i64 v.op,.int .i64 v.n,.string v.s,.int .i64 v.b,.int .i64 v.c] 171));have J5:=aa B0;have HM:=aa (h.below B0);have HU:=aa (hu.below B0);have L0:=aa h.lt;have H4:=aa hv;have I4:=aa D1;have HN:=aa (And.intro hl (And.intro hn E5));have HK:=aa (KpG.of (mb:=mb) (kb:=kb) (ub:=ub) B0 (Nat.le_of_lt h.lt));obtain⟨up,G3⟩:∃ up,Hid (my ub=up):=⟨_,aa rfl⟩
 rw[G3.out];obtain⟨vb,G2⟩:∃ vb,Hid (w.heap.size=vb):=⟨_,aa rfl⟩
 have C8:=aa (show mb<vb by rw[←G2.out]; exact h.lt);rw[G2.out] at C2;clear B0 h hu hv D1 hl hn E5;go_enter Tryz.func144,Tryz.ntmps144;go_upto_region 1 with(fail)
 simp only[G2.out];generalize World.alloc _ _=w1 at *;have v0:=ab C2.out 0 _ rfl;have v1:=ab C2.out 1 _ rfl;have v2:=ab C2.out 2 _ rfl;have v3:=ab C2.out 3 _ rfl;have v4:=ab C2.out 4 _ rfl;have c6:=ab HM.out.box 6 _ rfl;have c3:=ab HM.out.box 3 _ rfl;obtain⟨n,J6,I9⟩:=HM.out.kn;have lk:∀ W:World,W.heap=w1.heap→(Instr.lookup 64 (.map (some kb)) (.agg #[.int .i64 v.op,.int .i64 v.n,.string v.s,.int .i64 v.b,.int .i64 v.c]) true).run Tryz.prog W=.ok (.tuple #[.int .i64 ((m.known v).getD 0),.bool (m.known v).isSome]) W:=fun W e=>(I9.same (by rw[e])).lookV H4.out;have lkd:=lk w1.drew rfl;clear lk;go_upto_region 2 with(go_region)
 have J1:w1.drew.cell? ⟨mb,3,none⟩=some (.bool sh):=c3;by_cases hf:sh=true∧∃ r,m.known v=some r
 ·obtain⟨rfl,r,hr⟩:=hf;have HE:=aa (show au true v m u=(r,m,u) by unfold au; rw[if_pos rfl,hr]);rw[hr];go_wp2_with fail
  go_ret;rw[HE.out];exact⟨rfl,⟨⟨_,_,_,_,HM.out.drew,.inl rfl⟩,HK.out.trans HM.out.kd (.inl rfl)⟩,HU.out.below (Below.refl _ w1).drew⟩
 ·have HE:=aa (show au sh v m u=(m.next,(m.reg.lay (v.ix m.next)).put v m.next,if v.op=2 then u++[m.ins.length] else u) by
   unfold au;cases sh with
   |false=>rfl
   |true=>
    cases hk:m.known v with
    |none=>rfl
    |some r=>exact absurd ⟨rfl,r,hk⟩ hf)
  have hg:((m.known v).isSome && sh)=false:=by
   cases sh with
   |false=>rw[Bool.and_false]
   |true=>
    cases hk:m.known v with
    |none=>rfl
    |some r=>exact absurd ⟨rfl,r,hk⟩ hf
  obtain⟨bk,I3⟩:∃ b,Hid ((m.known v).isSome=b):=⟨_,aa rfl⟩
  obtain⟨gd,J0⟩:∃ g,Hid ((m.known v).getD 0=g):=⟨_,aa rfl⟩
  rw[I3.out,J0.out];rw[I3.out] at hg;clear hf lkd;have I2:∀ P:Prop,(bk=true→sh=false→P)→(bk=false→P)→P:=fun P h1 h2=>by
   cases bk with
   |false=>exact h2 rfl
   |true=>exact h1 rfl (by simpa using hg)
  have J2:=aa (HK.out.trans (HM.out.kd (ub:=ub)) (.inl rfl));have I6:=aa (fun W (b:Below w1.heap.size w1 W)=>um mb kb sh m vw vi vj W (HM.out.below b) (by have:=HN.out; omega));have J9:=aa (show ∀ a b:Value,True from fun _ _=>trivial);refine I2 _ (fun e1 e2=>?_) (fun e1=>?_);all_goals clear I2
  all_goals first|(subst e1; subst e2)|subst e1
  all_goals go_upto_region 4 with(fail)
  all_goals clear hg J1 c3 c6
  all_goals go_wp2_with fail
  all_goals refine(I6.out _ (Below.refl _ w1).drew).mono ?_
  all_goals rintro e w2 ⟨rfl,H2⟩
  all_goals
   have C9:=aa (H2.box (by have:=C8.out; omega) (by decide) (by decide) (by decide) (show w1.drew.heap[vb]? = _ from C2.out));have E7:=aa H2;have I5:=aa ((HU.out.below (Below.refl _ w1).drew).kp H2.kp);clear H2 v0 v1 v2 v3 v4 I6;have v0:=ab C9.out 0 _ rfl;have v1:=ab C9.out 1 _ rfl;have v2:=ab C9.out 2 _ rfl;have v3:=ab C9.out 3 _ rfl;have v4:=ab C9.out 4 _ rfl;have B3:=(Below.refl w2.heap.size w2).alloc (Nat.le_refl _) (.cells #[.int .i64 v.op,.int .i64 m.next,.int .i64 v.b,.int .i64 v.c,.int .i64 v.n,.string v.s,.int .i64 0] 73);have A3:=aa (heap_alloc_new w2 (.cells #[.int .i64 v.op,.int .i64 m.next,.int .i64 v.b,.int .i64 v.c,.int .i64 v.n,.string v.s,.int .i64 0] 73));have E1:=aa (ag B3 C9.out);have E6:=aa (I5.out.below B3);have H3:=aa (E7.out.below B3);obtain⟨xb,G1⟩:∃ xb,Hid (w2.heap.size=xb):=⟨_,aa rfl⟩
   rw[G1.out] at A3;have J8:=aa (show mb<xb by rw[←G1.out]; have:=E7.out.kp.bel.size; have:=HM.out.lt; exact Nat.lt_of_lt_of_le HM.out.lt E7.out.kp.bel.size);clear B3;go_upto_region 6 with(fail)
   simp only[G1.out]
  all_goals
   clear v0 v1 v2 v3 v4 E7 I5 C9 HM C2 HU;generalize I7:World.alloc _ _=w3 at *;clear I7;have e0:=ab E1.out 0 _ rfl;have x0:=ab A3.out 0 _ rfl;have x1:=ab A3.out 1 _ rfl;have x2:=ab A3.out 2 _ rfl;have x3:=ab A3.out 3 _ rfl;have x4:=ab A3.out 4 _ rfl;have x5:=ab A3.out 5 _ rfl;have x6:=ab A3.out 6 _ rfl;obtain⟨⟨E2,E4,E3,C1,m3,I1⟩,I0⟩:=H3.out;have M3:=aa m3;have P3:=aa (And.intro I1 I0);clear m3 I1 I0;have J7:m.reg.ins.length≤800000:=HN.out.1;have C3:=aa (show KpG mb kb ub w w3 from J2.out.trans P3.out.2.wk (.inl rfl));have B9:=aa (show C1=kb∨w.heap.size≤C1 from P3.out.1.imp id fun h=>Nat.le_trans J5.out.size h);have H6:=aa (ir mb C1 _ m.reg E2 E4 E3 (v.ix m.next) w3 M3.out (by omega));have J3:=aa (gh mb C1 _ m.reg E2 E4 E3 (v.ix m.next) w3 M3.out (by omega));unfold Val.ix at H6 J3;go_upto_if 44 with(fail)
  ·go_cut [44] (fun b wx=>True∧∃ vw' vi' vj' kb',Hid (MkAt mb false (m.reg.lay (v.ix m.next)) vw' vi' vj' kb' wx∧(kb'=kb∨w.heap.size≤kb')∧KpG mb kb ub w wx∧UnkO mb ub (if v.op=2 then u++[m.ins.length] else u) wx∧wx.heap[vb]? = some (.cells #[.int .i64 v.op,.int .i64 v.n,.string v.s,.int .i64 v.b,.int .i64 v.c] 171 (0,0))));case first=>
    by_cases h2:v.op=2
    ·have g2:((v.op:Int) == 2)=true:=by simpa using h2
     obtain⟨b,rfl⟩:=I4.out h2;have D1:up=.pointer (some ⟨b,0,none⟩):=G3.out.symm;subst D1;obtain⟨⟨vu,fs,u1,u2,u3⟩,u4⟩:=E6.out b rfl;have H2:=aa h2;have A4:=aa (And.intro u1 (And.intro u2 (And.intro u3 u4)));have J4:=aa u2.1;clear u1 u2 u3 u4 h2 x0 x1 x2 x3 x4 x5 x6 e0;have E0:=A4.out.1;go_upto_region 7 with(fail)
     refine ed (fun W=>W.heap[b]? = some (.cells #[vu] 141 (0,0))) 10 [false,false,false,false,false,true,true,true,true,false,true] (by kernel_rfl) (by kernel_rfl) (by kernel_rfl) E0 ?_;clear E0;iterate 5
      apply dn
      ·rfl
      ·intro W hW;have q0:=ab hW 0 _ rfl;first|(go_simp; done)|(go_simp; with_reducible rfl)
      simp only[Act.put,List.setIfInBounds_toArray,List.set_cons_zero,List.set_cons_succ]
     have G5:=M3.out.drew;refine dl (v:=.agg #[.int .i64 v.op,.int .i64 m.next,.int .i64 v.b,.int .i64 v.c,.int .i64 v.n,.string v.s,.int .i64 0]) (w':=w3.drew) ?_ ?_ ?_ ?_
     ·rfl
     ·have x0:w3.drew.cell? ⟨xb,0,none⟩=some (.int .i64 v.op):=ab A3.out 0 _ rfl;have x1:w3.drew.cell? ⟨xb,1,none⟩=some (.int .i64 m.next):=ab A3.out 1 _ rfl;have x2:w3.drew.cell? ⟨xb,2,none⟩=some (.int .i64 v.b):=ab A3.out 2 _ rfl;have x3:w3.drew.cell? ⟨xb,3,none⟩=some (.int .i64 v.c):=ab A3.out 3 _ rfl;have x4:w3.drew.cell? ⟨xb,4,none⟩=some (.int .i64 v.n):=ab A3.out 4 _ rfl;have x5:w3.drew.cell? ⟨xb,5,none⟩=some (.string v.s):=ab A3.out 5 _ rfl;have x6:w3.drew.cell? ⟨xb,6,none⟩=some (.int .i64 0):=ab A3.out 6 _ rfl;first|(go_simp; done)|(go_simp; with_reducible rfl)
     ·exact .inr A4.out.1
     simp only[Act.put,List.setIfInBounds_toArray,List.set_cons_zero,List.set_cons_succ];refine jk 106 #[.pointer (some ⟨mb,0,none⟩),.agg #[.int .i64 v.op,.int .i64 m.next,.int .i64 v.b,.int .i64 v.c,.int .i64 v.n,.string v.s,.int .i64 0]] (fun f w'=>JumpFn mb w' f m.reg.ins.length∧Lays mb C1 none false (m.reg.lay (v.ix m.next)) w3.drew w') ?_ ?_ ?_ ?_
     ·rfl
     ·go_simp
     ·refine(gh mb C1 _ m.reg E2 E4 E3 (v.ix m.next) w3.drew G5 (by omega)).mono ?_;rintro e w' ⟨f,h1,h2,h3⟩;exact⟨f,h1,h2,h3⟩
     rintro f w4 ⟨⟨A6,A5,rfl,G8⟩,A8⟩;have C6:JumpFn mb w4 (.func (.func 150) #[] #[.pointer (some ⟨A6,0,none⟩),.pointer (some ⟨A5,0,none⟩)]) m.reg.ins.length:=⟨A6,A5,rfl,G8⟩
     have H8:=aa C6;have H7:=aa A8;have C7:=A8.box (k:=b) (by have:=A4.out.2.2.2; omega) (by decide) (by decide) (by decide) A4.out.1;have A7:w4.ownsRow (mb+1) 1 1 vu u.length fs:=by
      refine⟨A4.out.2.1.1,?_⟩;rcases A4.out.2.1.2 with h5|⟨g,cap,cur,e1,e2,e3,e4⟩
      ·exact .inl h5
      ·exact .inr ⟨g,cap,cur,e1,e2,A8.box (k:=g) (by omega) (by decide) (by decide) (by decide) e3,e4⟩
     have D9:∀(i:Nat) p,u[i]? = some p→∃ f,fs[i]? = some f∧JumpFn mb w4 f p:=fun i p hp=>by
      obtain⟨f',h1,h2⟩:=A4.out.2.2.1 i p hp;exact⟨f',h1,(h2.below (Below.refl _ w3).drew).kp A8.kp (fun u e=>by cases e)⟩
     refine⟨.inr C7,?_⟩;simp only[Act.put,List.setIfInBounds_toArray,List.set_cons_zero,List.set_cons_succ];have B8:=(Below.refl w4.heap.size w4).alloc (Nat.le_refl _) (.cells #[(.func (.func 150) #[] #[.pointer (some ⟨A6,0,none⟩),.pointer (some ⟨A5,0,none⟩)])] 1);have D3:=heap_alloc_new w4 (.cells #[(.func (.func 150) #[] #[.pointer (some ⟨A6,0,none⟩),.pointer (some ⟨A5,0,none⟩)])] 1);have B1:=ag B8 C7;refine dl (v:=.slice (some ⟨w4.heap.size,0,none⟩) 1 1) (w':=w4.alloc (.cells #[(.func (.func 150) #[] #[.pointer (some ⟨A6,0,none⟩),.pointer (some ⟨A5,0,none⟩)])] 1)) ?_ ?_ ?_ ?_
     ·rfl
     ·go_simp
     ·exact .inr B1
     simp only[Act.put,List.setIfInBounds_toArray,List.set_cons_zero,List.set_cons_succ];have D8:∀(i:Nat) p,u[i]? = some p→∃ f',fs[i]? = some f'∧JumpFn mb (w4.alloc (.cells #[(.func (.func 150) #[] #[.pointer (some ⟨A6,0,none⟩),.pointer (some ⟨A5,0,none⟩)])] 1)) f' p:=fun i p hp=>by
      obtain⟨f',h1,h2⟩:=D9 i p hp;exact⟨f',h1,h2.below B8⟩
     have B7:=C6.below B8;have H1:=A8.below B8;have G6:mb<(w4.alloc (.cells #[(.func (.func 150) #[] #[.pointer (some ⟨A6,0,none⟩),.pointer (some ⟨A5,0,none⟩)])] 1)).heap.size:=by have:=af B1; have:=A4.out.2.2.2; omega
     have A1:=World.ownsRow.alloc A7 (.cells #[(.func (.func 150) #[] #[.pointer (some ⟨A6,0,none⟩),.pointer (some ⟨A5,0,none⟩)])] 1);obtain⟨w4s,B5⟩:∃ k,w4.heap.size=k:=⟨_,rfl⟩
     rw[B5] at D3 ⊢;clear B8 C7 D9 A7 B5 H8 H7 C6 A8;generalize World.alloc w4 _=w5 at *;obtain⟨ti,G0,F9,F8,F7⟩:=info_split zcq;have E5:=HN.out.2.2.1;refine ky _ _ 141 rfl rfl (mb+1) 1 ti _ 1 8 Tryz.underlying141 G0 F9 F8 F7 rfl (by decide) vu _ _ rfl A1 ⟨w4s,0,none⟩ 1 1 [(.func (.func 150) #[] #[.pointer (some ⟨A6,0,none⟩),.pointer (some ⟨A5,0,none⟩)])] rfl rfl
      (fun j y hj=>?_) (fun y hy=>?_) (by decide) (by unfold maxLen; omega) (by omega) (by omega) (fun g cap w6 B6 A9 H0 G7=>?_)
     ·rw[add_gen,Nat.zero_add];unfold World.cell?;simp only[D3];simpa using hj
     ·simp only[List.mem_cons,List.not_mem_nil,or_false] at hy;subst hy;rfl
     have A0:=UnkAt.push (W:=w5) A4.out.2.2.2 B1 A1 D8 B7 B6 A9;refine⟨.inr A0.2,?_⟩;simp only[Act.put,List.setIfInBounds_toArray,List.set_cons_zero,List.set_cons_succ];obtain⟨⟨E9,F5,F2,B2,M5,D6⟩,P5⟩:=H1;have hk:=tj (v:=.slice (some ⟨g,0,none⟩) (u.length+1) cap) M5 A4.out.2.2.2 B1 A0.2 A1 A9;have A2:=aa (show MkAt mb false (m.reg.lay (v.ix m.next)) E9 F5 F2 B2 (w6.setCell ⟨b,0,none⟩ (.slice (some ⟨g,0,none⟩) (u.length+1) cap))∧(B2=kb∨w.heap.size≤B2)∧KpG mb kb (some b) w (w6.setCell ⟨b,0,none⟩ (.slice (some ⟨g,0,none⟩) (u.length+1) cap))∧UnkAt mb b (u++[m.ins.length]) (w6.setCell ⟨b,0,none⟩ (.slice (some ⟨g,0,none⟩) (u.length+1) cap)) by
      have C0:B2=kb∨w.heap.size≤B2:=by
       rcases D6 with rfl|h
       ·exact B9.out
       ·exact .inr (Nat.le_trans C3.out.bel.size h)
      exact⟨hk.1,C0,((C3.out.trans (M3.out.kd) B9.out).trans P5.wk B9.out).trans hk.2 C0,A0.1⟩)
     have H5:=aa (show(w6.setCell ⟨b,0,none⟩ (.slice (some ⟨g,0,none⟩) (u.length+1) cap)).heap[vb]? = some (.cells #[.int .i64 v.op,.int .i64 v.n,.string v.s,.int .i64 v.b,.int .i64 v.c] 171 (0,0)) by
      have e5:=P5.box (k:=vb) (by have:=C8.out; omega) (fun u e=>by cases e) (by decide) (by decide) (by decide) (show w3.drew.heap[vb]? = _ from E1.out);exact hk.2.box (k:=vb) (by have:=C8.out; omega) (fun u e=>by
       cases e;refine⟨?_,by decide⟩;rintro rfl;rw[B1] at e5;simp at e5) (by decide) (by decide) (by decide) e5)
     have c0:=ab A0.2 0 _ rfl;have f0:=frozen_of (o:=0) A0.2;have G9:=A0.2;clear hk A0 B6 A9 H0 G7 A1 D8 B7 B1 M5 D6 P5;apply dn
     ·rfl
     ·intro W hW;have q0:=ab hW 0 _ rfl;first|(go_simp; done)|(go_simp; with_reducible rfl)
     simp only[Act.put,List.setIfInBounds_toArray,List.set_cons_zero,List.set_cons_succ];refine jh (w':=w6.setCell ⟨b,0,none⟩ (.slice (some ⟨g,0,none⟩) (u.length+1) cap)) ?_ ?_ ?_ ?_
     ·rfl
     ·go_simp
     ·exact .inl (Nat.le_refl _)
     refine gy ?_;clear c0 f0 G9;generalize World.setCell _ _ _=w7 at *;go_wp2_with fail
     go_meet;refine⟨trivial,_,_,_,_,aa ⟨A2.out.1,A2.out.2.1,A2.out.2.2.1,?_,H5.out⟩⟩;rw[if_pos H2.out];intro b' e;cases e;exact A2.out.2.2.2
    ·have g2:((v.op:Int) == 2)=false:=by simpa using h2
     have H2:=aa h2;clear h2;go_wp2_with fail
     refine H6.out.mono ?_;rintro e w4 ⟨rfl,h4⟩;obtain⟨⟨F0,F6,F3,B4,M4,D7⟩,P4⟩:=h4;have A2:=aa (show MkAt mb false (m.reg.lay (v.ix m.next)) F0 F6 F3 B4 w4∧(B4=kb∨w.heap.size≤B4)∧KpG mb kb ub w w4∧UnkO mb ub (if v.op=2 then u++[m.ins.length] else u) w4∧w4.heap[vb]? = some (.cells #[.int .i64 v.op,.int .i64 v.n,.string v.s,.int .i64 v.b,.int .i64 v.c] 171 (0,0)) by
      have C0:B4=kb∨w.heap.size≤B4:=by
       rcases D7 with rfl|h
       ·exact B9.out
       ·exact .inr (Nat.le_trans C3.out.bel.size h)
      exact⟨M4,C0,C3.out.trans P4.wk B9.out,by rw[if_neg (by simpa using H2.out)]; exact E6.out.kp P4,P4.box (k:=vb) (by have:=C8.out; omega) (fun u e=>by cases e) (by decide) (by decide) (by decide) E1.out⟩)
     clear M4 D7 P4 x0 x1 x2 x3 x4 x5 x6 e0;go_wp2_with fail
     go_meet;exact⟨trivial,_,_,_,_,A2⟩
   case rest=>
    obtain⟨-,E8,F4,F1,D2,H9⟩:=hcut;clear x0 x1 x2 x3 x4 x5 x6 e0;obtain⟨n9,G4,D5⟩:=H9.out.1.kn;have I8:=HN.out.2.1;obtain⟨C4,C5,D4,A9⟩:=Kn.put (m:=m.reg.lay (v.ix m.next)) (W:=wc.drew) (D5.same rfl) (by have:=HN.out.2.2.2; have h:(m.reg.lay (v.ix m.next)).puts=m.puts:=rfl; unfold maxLen; omega) H4.out (r:=m.next) (by unfold I64; omega);unfold ui at C5;have D0:=aa (show MkAt mb false ((m.reg.lay (v.ix m.next)).put v m.next) E8 F4 F1 D2 C4∧KpG mb D2 none wc.drew C4 from MkAt.known (W:=wc.drew) (W':=C4) H9.out.1.drew A9 (n:=n9+1) (q:=m.puts+1) (Nat.succ_le_succ G4) D4);have c6:=ab H9.out.1.box 6 _ rfl;have v0:=ab H9.out.2.2.2.2 0 _ rfl;have v1:=ab H9.out.2.2.2.2 1 _ rfl;have v2:=ab H9.out.2.2.2.2 2 _ rfl;have v3:=ab H9.out.2.2.2.2 3 _ rfl;have v4:=ab H9.out.2.2.2.2 4 _ rfl;clear D4 A9 D5;go_upto_region 9 with(fail)
    go_still_tail 6,(by kernel_rfl)
    change wpList _ _ _ _ _ wc.drew
    go_wp2_with fail
    go_ret;rw[HE.out];refine⟨rfl,⟨⟨_,_,_,_,D0.out.1,H9.out.2.1⟩,(H9.out.2.2.1.trans H9.out.1.kd H9.out.2.1).trans D0.out.2.wk H9.out.2.1⟩,?_⟩;exact(H9.out.2.2.2.1.below (Below.refl _ wc).drew).kp D0.out.2
  ·go_cut [44] (fun b wx=>True∧∃ vw' vi' vj' kb',Hid (MkAt mb sh (m.reg.lay (v.ix m.next)) vw' vi' vj' kb' wx∧(kb'=kb∨w.heap.size≤kb')∧KpG mb kb ub w wx∧UnkO mb ub (if v.op=2 then u++[m.ins.length] else u) wx∧wx.heap[vb]? = some (.cells #[.int .i64 v.op,.int .i64 v.n,.string v.s,.int .i64 v.b,.int .i64 v.c] 171 (0,0))));case first=>
    by_cases h2:v.op=2
    ·have g2:((v.op:Int) == 2)=true:=by simpa using h2
     obtain⟨b,rfl⟩:=I4.out h2;have D1:up=.pointer (some ⟨b,0,none⟩):=G3.out.symm;subst D1;obtain⟨⟨vu,fs,u1,u2,u3⟩,u4⟩:=E6.out b rfl;have H2:=aa h2;have A4:=aa (And.intro u1 (And.intro u2 (And.intro u3 u4)));have J4:=aa u2.1;clear u1 u2 u3 u4 h2 x0 x1 x2 x3 x4 x5 x6 e0;have E0:=A4.out.1;go_upto_region 7 with(fail)
     refine ed (fun W=>W.heap[b]? = some (.cells #[vu] 141 (0,0))) 10 [false,false,false,false,false,true,true,true,true,false,true] (by kernel_rfl) (by kernel_rfl) (by kernel_rfl) E0 ?_;clear E0;iterate 5
      apply dn
      ·rfl
      ·intro W hW;have q0:=ab hW 0 _ rfl;first|(go_simp; done)|(go_simp; with_reducible rfl)
      simp only[Act.put,List.setIfInBounds_toArray,List.set_cons_zero,List.set_cons_succ]
     have G5:=M3.out.drew;refine dl (v:=.agg #[.int .i64 v.op,.int .i64 m.next,.int .i64 v.b,.int .i64 v.c,.int .i64 v.n,.string v.s,.int .i64 0]) (w':=w3.drew) ?_ ?_ ?_ ?_
     ·rfl
     ·have x0:w3.drew.cell? ⟨xb,0,none⟩=some (.int .i64 v.op):=ab A3.out 0 _ rfl;have x1:w3.drew.cell? ⟨xb,1,none⟩=some (.int .i64 m.next):=ab A3.out 1 _ rfl;have x2:w3.drew.cell? ⟨xb,2,none⟩=some (.int .i64 v.b):=ab A3.out 2 _ rfl;have x3:w3.drew.cell? ⟨xb,3,none⟩=some (.int .i64 v.c):=ab A3.out 3 _ rfl;have x4:w3.drew.cell? ⟨xb,4,none⟩=some (.int .i64 v.n):=ab A3.out 4 _ rfl;have x5:w3.drew.cell? ⟨xb,5,none⟩=some (.string v.s):=ab A3.out 5 _ rfl;have x6:w3.drew.cell? ⟨xb,6,none⟩=some (.int .i64 0):=ab A3.out 6 _ rfl;first|(go_simp; done)|(go_simp; with_reducible rfl)
     ·exact .inr A4.out.1
     simp only[Act.put,List.setIfInBounds_toArray,List.set_cons_zero,List.set_cons_succ];refine jk 106 #[.pointer (some ⟨mb,0,none⟩),.agg #[.int .i64 v.op,.int .i64 m.next,.int .i64 v.b,.int .i64 v.c,.int .i64 v.n,.string v.s,.int .i64 0]] (fun f w'=>JumpFn mb w' f m.reg.ins.length∧Lays mb C1 none sh (m.reg.lay (v.ix m.next)) w3.drew w') ?_ ?_ ?_ ?_
     ·rfl
     ·go_simp
     ·refine(gh mb C1 _ m.reg E2 E4 E3 (v.ix m.next) w3.drew G5 (by omega)).mono ?_;rintro e w' ⟨f,h1,h2,h3⟩;exact⟨f,h1,h2,h3⟩
     rintro f w4 ⟨⟨A6,A5,rfl,G8⟩,A8⟩;have C6:JumpFn mb w4 (.func (.func 150) #[] #[.pointer (some ⟨A6,0,none⟩),.pointer (some ⟨A5,0,none⟩)]) m.reg.ins.length:=⟨A6,A5,rfl,G8⟩
     have H8:=aa C6;have H7:=aa A8;have C7:=A8.box (k:=b) (by have:=A4.out.2.2.2; omega) (by decide) (by decide) (by decide) A4.out.1;have A7:w4.ownsRow (mb+1) 1 1 vu u.length fs:=by
      refine⟨A4.out.2.1.1,?_⟩;rcases A4.out.2.1.2 with h5|⟨g,cap,cur,e1,e2,e3,e4⟩
      ·exact .inl h5
      ·exact .inr ⟨g,cap,cur,e1,e2,A8.box (k:=g) (by omega) (by decide) (by decide) (by decide) e3,e4⟩
     have D9:∀(i:Nat) p,u[i]? = some p→∃ f,fs[i]? = some f∧JumpFn mb w4 f p:=fun i p hp=>by
      obtain⟨f',h1,h2⟩:=A4.out.2.2.1 i p hp;exact⟨f',h1,(h2.below (Below.refl _ w3).drew).kp A8.kp (fun u e=>by cases e)⟩
     refine⟨.inr C7,?_⟩;simp only[Act.put,List.setIfInBounds_toArray,List.set_cons_zero,List.set_cons_succ];have B8:=(Below.refl w4.heap.size w4).alloc (Nat.le_refl _) (.cells #[(.func (.func 150) #[] #[.pointer (some ⟨A6,0,none⟩),.pointer (some ⟨A5,0,none⟩)])] 1);have D3:=heap_alloc_new w4 (.cells #[(.func (.func 150) #[] #[.pointer (some ⟨A6,0,none⟩),.pointer (some ⟨A5,0,none⟩)])] 1);have B1:=ag B8 C7;refine dl (v:=.slice (some ⟨w4.heap.size,0,none⟩) 1 1) (w':=w4.alloc (.cells #[(.func (.func 150) #[] #[.pointer (some ⟨A6,0,none⟩),.pointer (some ⟨A5,0,none⟩)])] 1)) ?_ ?_ ?_ ?_
     ·rfl
     ·go_simp
     ·exact .inr B1
     simp only[Act.put,List.setIfInBounds_toArray,List.set_cons_zero,List.set_cons_succ];have D8:∀(i:Nat) p,u[i]? = some p→∃ f',fs[i]? = some f'∧JumpFn mb (w4.alloc (.cells #[(.func (.func 150) #[] #[.pointer (some ⟨A6,0,none⟩),.pointer (some ⟨A5,0,none⟩)])] 1)) f' p:=fun i p hp=>by
      obtain⟨f',h1,h2⟩:=D9 i p hp;exact⟨f',h1,h2.below B8⟩
     have B7:=C6.below B8;have H1:=A8.below B8;have G6:mb<(w4.alloc (.cells #[(.func (.func 150) #[] #[.pointer (some ⟨A6,0,none⟩),.pointer (some ⟨A5,0,none⟩)])] 1)).heap.size:=by have:=af B1; have:=A4.out.2.2.2; omega
     have A1:=World.ownsRow.alloc A7 (.cells #[(.func (.func 150) #[] #[.pointer (some ⟨A6,0,none⟩),.pointer (some ⟨A5,0,none⟩)])] 1);obtain⟨w4s,B5⟩:∃ k,w4.heap.size=k:=⟨_,rfl⟩
     rw[B5] at D3 ⊢;clear B8 C7 D9 A7 B5 H8 H7 C6 A8;generalize World.alloc w4 _=w5 at *;obtain⟨ti,G0,F9,F8,F7⟩:=info_split zcq;have E5:=HN.out.2.2.1;refine ky _ _ 141 rfl rfl (mb+1) 1 ti _ 1 8 Tryz.underlying141 G0 F9 F8 F7 rfl (by decide) vu _ _ rfl A1 ⟨w4s,0,none⟩ 1 1 [(.func (.func 150) #[] #[.pointer (some ⟨A6,0,none⟩),.pointer (some ⟨A5,0,none⟩)])] rfl rfl
      (fun j y hj=>?_) (fun y hy=>?_) (by decide) (by unfold maxLen; omega) (by omega) (by omega) (fun g cap w6 B6 A9 H0 G7=>?_)
     ·rw[add_gen,Nat.zero_add];unfold World.cell?;simp only[D3];simpa using hj
     ·simp only[List.mem_cons,List.not_mem_nil,or_false] at hy;subst hy;rfl
     have A0:=UnkAt.push (W:=w5) A4.out.2.2.2 B1 A1 D8 B7 B6 A9;refine⟨.inr A0.2,?_⟩;simp only[Act.put,List.setIfInBounds_toArray,List.set_cons_zero,List.set_cons_succ];obtain⟨⟨E9,F5,F2,B2,M5,D6⟩,P5⟩:=H1;have hk:=tj (v:=.slice (some ⟨g,0,none⟩) (u.length+1) cap) M5 A4.out.2.2.2 B1 A0.2 A1 A9;have A2:=aa (show MkAt mb sh (m.reg.lay (v.ix m.next)) E9 F5 F2 B2 (w6.setCell ⟨b,0,none⟩ (.slice (some ⟨g,0,none⟩) (u.length+1) cap))∧(B2=kb∨w.heap.size≤B2)∧KpG mb kb (some b) w (w6.setCell ⟨b,0,none⟩ (.slice (some ⟨g,0,none⟩) (u.length+1) cap))∧UnkAt mb b (u++[m.ins.length]) (w6.setCell ⟨b,0,none⟩ (.slice (some ⟨g,0,none⟩) (u.length+1) cap)) by
      have C0:B2=kb∨w.heap.size≤B2:=by
       rcases D6 with rfl|h
       ·exact B9.out
       ·exact .inr (Nat.le_trans C3.out.bel.size h)
      exact⟨hk.1,C0,((C3.out.trans (M3.out.kd) B9.out).trans P5.wk B9.out).trans hk.2 C0,A0.1⟩)
     have H5:=aa (show(w6.setCell ⟨b,0,none⟩ (.slice (some ⟨g,0,none⟩) (u.length+1) cap)).heap[vb]? = some (.cells #[.int .i64 v.op,.int .i64 v.n,.string v.s,.int .i64 v.b,.int .i64 v.c] 171 (0,0)) by
      have e5:=P5.box (k:=vb) (by have:=C8.out; omega) (fun u e=>by cases e) (by decide) (by decide) (by decide) (show w3.drew.heap[vb]? = _ from E1.out);exact hk.2.box (k:=vb) (by have:=C8.out; omega) (fun u e=>by
       cases e;refine⟨?_,by decide⟩;rintro rfl;rw[B1] at e5;simp at e5) (by decide) (by decide) (by decide) e5)
     have c0:=ab A0.2 0 _ rfl;have f0:=frozen_of (o:=0) A0.2;have G9:=A0.2;clear hk A0 B6 A9 H0 G7 A1 D8 B7 B1 M5 D6 P5;apply dn
     ·rfl
     ·intro W hW;have q0:=ab hW 0 _ rfl;first|(go_simp; done)|(go_simp; with_reducible rfl)
     simp only[Act.put,List.setIfInBounds_toArray,List.set_cons_zero,List.set_cons_succ];refine jh (w':=w6.setCell ⟨b,0,none⟩ (.slice (some ⟨g,0,none⟩) (u.length+1) cap)) ?_ ?_ ?_ ?_
     ·rfl
     ·go_simp
     ·exact .inl (Nat.le_refl _)
     refine gy ?_;clear c0 f0 G9;generalize World.setCell _ _ _=w7 at *;go_wp2_with fail
     go_meet;refine⟨trivial,_,_,_,_,aa ⟨A2.out.1,A2.out.2.1,A2.out.2.2.1,?_,H5.out⟩⟩;rw[if_pos H2.out];intro b' e;cases e;exact A2.out.2.2.2
    ·have g2:((v.op:Int) == 2)=false:=by simpa using h2
     have H2:=aa h2;clear h2;go_wp2_with fail
     refine H6.out.mono ?_;rintro e w4 ⟨rfl,h4⟩;obtain⟨⟨F0,F6,F3,B4,M4,D7⟩,P4⟩:=h4;have A2:=aa (show MkAt mb sh (m.reg.lay (v.ix m.next)) F0 F6 F3 B4 w4∧(B4=kb∨w.heap.size≤B4)∧KpG mb kb ub w w4∧UnkO mb ub (if v.op=2 then u++[m.ins.length] else u) w4∧w4.heap[vb]? = some (.cells #[.int .i64 v.op,.int .i64 v.n,.string v.s,.int .i64 v.b,.int .i64 v.c] 171 (0,0)) by
      have C0:B4=kb∨w.heap.size≤B4:=by
       rcases D7 with rfl|h
       ·exact B9.out
       ·exact .inr (Nat.le_trans C3.out.bel.size h)
      exact⟨M4,C0,C3.out.trans P4.wk B9.out,by rw[if_neg (by simpa using H2.out)]; exact E6.out.kp P4,P4.box (k:=vb) (by have:=C8.out; omega) (fun u e=>by cases e) (by decide) (by decide) (by decide) E1.out⟩)
     clear M4 D7 P4 x0 x1 x2 x3 x4 x5 x6 e0;go_wp2_with fail
     go_meet;exact⟨trivial,_,_,_,_,A2⟩
   case rest=>
    obtain⟨-,E8,F4,F1,D2,H9⟩:=hcut;clear x0 x1 x2 x3 x4 x5 x6 e0;obtain⟨n9,G4,D5⟩:=H9.out.1.kn;have I8:=HN.out.2.1;obtain⟨C4,C5,D4,A9⟩:=Kn.put (m:=m.reg.lay (v.ix m.next)) (W:=wc.drew) (D5.same rfl) (by have:=HN.out.2.2.2; have h:(m.reg.lay (v.ix m.next)).puts=m.puts:=rfl; unfold maxLen; omega) H4.out (r:=m.next) (by unfold I64; omega);unfold ui at C5;have D0:=aa (show MkAt mb sh ((m.reg.lay (v.ix m.next)).put v m.next) E8 F4 F1 D2 C4∧KpG mb D2 none wc.drew C4 from MkAt.known (W:=wc.drew) (W':=C4) H9.out.1.drew A9 (n:=n9+1) (q:=m.puts+1) (Nat.succ_le_succ G4) D4);have c6:=ab H9.out.1.box 6 _ rfl;have v0:=ab H9.out.2.2.2.2 0 _ rfl;have v1:=ab H9.out.2.2.2.2 1 _ rfl;have v2:=ab H9.out.2.2.2.2 2 _ rfl;have v3:=ab H9.out.2.2.2.2 3 _ rfl;have v4:=ab H9.out.2.2.2.2 4 _ rfl;clear D4 A9 D5;go_upto_region 9 with(fail)
    go_still_tail 6,(by kernel_rfl)
    change wpList _ _ _ _ _ wc.drew
    go_wp2_with fail
    go_ret;rw[HE.out];refine⟨rfl,⟨⟨_,_,_,_,D0.out.1,H9.out.2.1⟩,(H9.out.2.2.1.trans H9.out.1.kd H9.out.2.1).trans D0.out.2.wk H9.out.2.1⟩,?_⟩;exact(H9.out.2.2.2.1.below (Below.refl _ wc).drew).kp D0.out.2
end Gf
end
end Go.Proofs.YtanlmbbalamgkaaGreatDoor
