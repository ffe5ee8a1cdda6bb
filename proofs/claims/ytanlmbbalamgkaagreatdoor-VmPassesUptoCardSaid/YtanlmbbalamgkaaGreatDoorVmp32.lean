/- Proved: lemmas and contracts of the functions that the law reaches, part 32 of 35: GfWait, GfMake, GfComp, SmIdle. Conditions: as each states. -/
import Derived.Test.YtanlmbbalamgkaaGreatDoorVmp26
import Derived.Test.YtanlmbbalamgkaaGreatDoorVmp27
import Derived.Test.YtanlmbbalamgkaaGreatDoorVmp29
import Derived.Test.YtanlmbbalamgkaaGreatDoorVmp31
namespace Go.Proofs.YtanlmbbalamgkaaGreatDoor
set_option linter.unusedVariables false
set_option linter.unusedSimpArgs false
section
open Go.RowKit
open Rw
set_option maxRecDepth 100000
attribute [local go_sem] dp
namespace Gf
open Co Dn
theorem UnkAt.new {mb b:Nat}{W:World}(h:W.heap[b]? = some (.cells #[.slice none 0 0] 141 (0,0)))(hb:mb<b):UnkAt mb b [] W:=⟨⟨_,[],h,⟨rfl,.inl ⟨rfl,rfl⟩⟩,fun i p e=>by cases i<;>cases e⟩,hb⟩
theorem zgn {α:Type}:∀(l:List α) (i:Nat) (p:α),l[i]? = some p→l.take (i+1)=l.take i++[p]
 | [],_,_,h=>by cases h
 |x::r,0,p,h=>by simp at h; subst h; rfl
 |x::r,i+1,p,h=>by
  have:=zgn r i p (by simpa using h);rw[List.take_succ_cons,this];rfl
theorem zjq (m:Mk)(l:List Nat)(p:Nat):hereAll m (l++[p])=(hereAll m l).here p:=List.foldl_append
theorem dm:∀(l:List Nat) (m:Mk),(hereAll m l).ins.length=m.ins.length
 | [],_=>rfl
 |p::r,m=>(dm r (m.here p)).trans (ak m p)
theorem zpd {m:Mk}{j:Nat}{x:Gen.Wt}{f:Gen.Wt→Gen.Wt}(h:m.ws[j]? = some x)(e:f x=x):m.setW j f=m:=by
 have:m.ws.modify j f=m.ws:=by
  apply List.ext_getElem?;intro i;rw[List.getElem?_modify];by_cases hi:j=i
  ·subst hi;rw[h];simp[e]
  ·simp[hi]
 unfold Mk.setW;rw[this]
theorem zwy {m:Mk}{j:Nat}{x:Gen.Wt}{f f':Gen.Wt→Gen.Wt}(h:m.ws[j]? = some x)(e:f x=f' x):m.setW j f=m.setW j f':=by
 have:m.ws.modify j f=m.ws.modify j f':=by
  apply List.ext_getElem?;intro i;rw[List.getElem?_modify,List.getElem?_modify];by_cases hi:j=i
  ·subst hi;rw[h];simp[e]
  ·simp[hi]
 unfold Mk.setW;rw[this]
theorem zrq {op n:Int}{s:ByteArray}{ks:List T}(h:(T.mk op n s ks).letter=99)(ho:op=29∨op=30∨op=31):0≤n∧n≤73048:=by
 obtain⟨-,hf⟩:=letter_inv h (by decide) (by omega);rcases ho with rfl|rfl|rfl
 ·exact sq (.inr (.inl rfl)) hf
 ·exact sq (.inr (.inr rfl)) hf
 ·simp[fields,Gen.within] at hf;omega
def UnkV (mb:Nat)(vu:Value)(fs:List Value)(U:List Nat)(W:World):Prop:=W.ownsRow (mb+1) 1 1 vu U.length fs∧∀(i:Nat) p,U[i]? = some p→∃ f,fs[i]? = some f∧JumpFn mb W f p
theorem UnkV.kp {mb kb:Nat}{vu:Value}{fs:List Value}{U:List Nat}{W W':World}(h:UnkV mb vu fs U W)(k:KpG mb kb none W W'):UnkV mb vu fs U W':=by
 obtain⟨h2,h3⟩:=h;refine⟨⟨h2.1,?_⟩,fun i p hp=>?_⟩
 ·rcases h2.2 with h5|⟨g,cap,cur,e1,e2,e3,e4⟩
  ·exact .inl h5
  ·exact .inr ⟨g,cap,cur,e1,e2,k.box (by omega) (fun u e=>by cases e) (by decide) (by decide) (by decide) e3,e4⟩
 ·obtain⟨f,hf,hj⟩:=h3 i p hp;exact⟨f,hf,hj.kp k (fun u e=>by cases e)⟩
theorem zrk {con:T→Mk→Mk}(r:Int)(t:T)(m:Mk)(hc:∀(t:T) (m:Mk),m.ws.length≤(con t m).ws.length∧m.ins.length≤(con t m).ins.length):m.ws.length≤(either con r t m).ws.length∧m.ins.length≤(either con r t m).ins.length:=by
 obtain⟨A,B,C,D,hA,hB,hC,hD,e⟩:=cm con r t m;have h1:=hc (t.kid 1) A;have h2:=hc (t.kid 2) C;rw[←hB] at h1;rw[←hD] at h2;rw[e];have e1:A.ws.length=m.ws.length∧A.ins.length=m.ins.length+1:=by rw[hA]; exact⟨rfl,ah _ _⟩
 have e2:C.ws.length=B.ws.length∧C.ins.length=B.ins.length+1:=by rw[hC]; exact⟨rfl,by rw[ak,ah,ao]⟩
 have e3:((D.back C.known).here (B.back A.known).ins.length).ws.length=D.ws.length∧((D.back C.known).here (B.back A.known).ins.length).ins.length=D.ins.length:=⟨rfl,by rw[ak,ao]⟩
 omega
structure Mid (mb kb ub B j:Nat)(sh:Bool)(R:Mk)(cur:Array Value)(w W:World):Prop where
 out:∃ M U vw vi vj kb',R=again j M U∧MkAt mb sh M vw vi vj kb' W∧(kb'=kb∨w.heap.size≤kb')∧KpG mb kb (some ub) w W∧Own1 mb 4 B cur 104 W∧UnkO mb (some ub) U W∧M.ins.length≤700000∧U.length≤700000∧Within U M∧j<M.ws.length
set_option maxHeartbeats 16000000 in
theorem zst (sh:Bool)(j:Nat)(op n:Int)(s:ByteArray)(ks:List T)(m:Mk)(k mb kb:Nat)(vw vi vj:Value)(q:Option Addr)(c:Nat)(w:World)(hx:(T.mk op n s ks).letter=99)(a6:bp (.mk op n s ks)=true)(hd:(T.mk op n s ks).depth≤200)
  (hv:CoreAt mb w (.mk op n s ks) (.agg #[.int .i64 op,.int .i64 n,.string s,.slice q ks.length c])) (hm:MkAt mb sh m vw vi vj kb w) (hj:j<m.ws.length) (hf:Fit k m.fresh) (hk:k+8 * (T.mk op n s ks).size≤600000):
  Calls Tryz.prog 52 #[.pointer (some ⟨mb,0,none⟩),.agg #[.int .i64 j,.int .i64 op,.int .i64 n,.string s,.slice q ks.length c]] w (fun e w'=>(∃ r,e=.returned r)∧∃ u,w.heap.size≤u∧Lays mb kb (some u) sh (wait sh j (.mk op n s ks) m) w w'):=by
 have a8:=hv;obtain⟨q',c2,O6,g3,b8,M1,g0,b3⟩:=hv.open;simp only[T.op,T.n,T.s,T.ks,Value.agg.injEq,Array.mk.injEq,List.cons.injEq,Value.slice.injEq,true_and,and_true] at O6;obtain⟨rfl,rfl⟩:q=q'∧c=c2:=by first|exact⟨O6.1,O6.2⟩|(obtain⟨h1,h2⟩:=O6; exact⟨h1,h2⟩)
 have c5:∀ x∈ks,x.depth≤200:=fun x hx=>by
  have:=em hx;rw[T.depth] at hd;omega
 have F8:=aa b3;have H6:=aa c5;have HX:=aa hx;have S6:=aa a6;have HI:=aa (And.intro b8 M1);have Z4:=aa (fun (W:World) (b:Below mb w W)=>(a8.kept b (Nat.le_refl _)));have B1:=(Below.refl w.heap.size w).alloc (Nat.le_refl _) (.cells #[.int .i64 j,.int .i64 op,.int .i64 n,.string s,.slice q ks.length c] 104);have y1:=heap_alloc_new w (.cells #[.int .i64 j,.int .i64 op,.int .i64 n,.string s,.slice q ks.length c] 104);have B2:=(Below.refl (w.heap.size+1) (w.alloc (.cells #[.int .i64 j,.int .i64 op,.int .i64 n,.string s,.slice q ks.length c] 104))).alloc (by simp) (.cells #[.int .i64 op,.int .i64 n,.string s,.slice q ks.length c] 24);have y2:=heap_alloc_new (w.alloc (.cells #[.int .i64 j,.int .i64 op,.int .i64 n,.string s,.slice q ks.length c] 104)) (.cells #[.int .i64 op,.int .i64 n,.string s,.slice q ks.length c] 24);simp only[World.size_alloc] at y2;have z1:=(B2.block _ (by omega)).trans y1;have BA:=B1.trans (B2.mono (by omega));have b7:∀ k,vj.ownBlock=some k→k≠w.heap.size:=fun k e=>by
  obtain⟨J,e1,e2,e3⟩:=hm.rj
  have:=(zcj e2 _ e).2;omega
 have HY:=aa (And.intro y1 (hm.below B1));have Z5:=aa ((Bx.nil mb _).cons y2 (by have:=hm.lt; omega) rfl);have HM:=aa (hm.below BA);have S8:=aa (Own1.newJob (hm.below BA) z1 b7);have HB:=aa BA;have d7:=aa (KpG.of (mb:=mb) (kb:=kb) (ub:=none) BA (Nat.le_of_lt hm.lt));have B0:=aa (And.intro hk (And.intro (show m.ins.length+m.ws.length+na m.jobs≤k from hf.len) (And.intro hf.nx (And.intro (show m.puts≤k from hf.pt) hj))));have HF:=aa hf;have d3:=aa hm.lt;clear B1 y1 B2 y2 z1 BA hm hv a8 b3 hk hf g3 hx a6 hd c5 hj b7 O6 b8 M1 g0;go_enter Tryz.func52,Tryz.ntmps52;go_upto_region 1 with(fail)
 have k0:=ab HY.out.1 0 _ rfl;have k1:=ab HY.out.1 1 _ rfl;have k2:=ab HY.out.1 2 _ rfl;have k3:=ab HY.out.1 3 _ rfl;have k4:=ab HY.out.1 4 _ rfl;clear HY;go_upto_region 2 with(fail)
 clear k0 k1 k2 k3 k4;obtain⟨B,hB⟩:∃ B,Hid (w.heap.size=B):=⟨_,aa rfl⟩
 simp only[hB.out] at Z5 S8 ⊢;generalize World.alloc _ _=w1 at *;obtain⟨x,hx⟩:∃ x,m.ws[j]? = some x:=⟨_,List.getElem?_eq_getElem B0.out.2.2.2.2⟩
 have Y4:=aa hx;obtain⟨g,cw,f5,hg,i7,M0,N8⟩:=HM.out.wcell hx;have S7:=aa (And.intro hg (And.intro M0 N8));clear hg M0 N8 hx;subst f5;have j1:(0:Int)≤(j:Int):=by omega
 have j2:(j:Int)<(m.ws.length:Int):=by have:=B0.out; omega
 have E2:w1.drew.heap[mb]? = some (.cells #[.int .i64 m.regs,.slice (some ⟨g,0,none⟩) m.ws.length cw,vi,.bool sh,vj,.int .i64 m.next,.map (some kb),.bool m.over] 66 (0,0))∧w1.drew.heap[B]? = some (.cells #[.int .i64 j,.int .i64 op,.int .i64 n,.string s,.slice q ks.length c] 104 (0,0)):=⟨HM.out.box,S8.out.2.1⟩
 obtain⟨lw,b1⟩:∃ lw,Hid (m.ws.length=lw):=⟨_,aa rfl⟩
 rw[b1.out] at E2 j2;refine ed (fun W=>W.heap[mb]? = some (.cells #[.int .i64 m.regs,.slice (some ⟨g,0,none⟩) lw cw,vi,.bool sh,vj,.int .i64 m.next,.map (some kb),.bool m.over] 66 (0,0))∧W.heap[B]? = some (.cells #[.int .i64 j,.int .i64 op,.int .i64 n,.string s,.slice q ks.length c] 104 (0,0))) 9 [false,false,false,false,false,false,false,false,false] (by kernel_rfl) (by kernel_rfl) (by kernel_rfl) E2 ?_;iterate 9
  apply dn
  ·rfl
  ·intro W hW;have q1:=ab hW.1 1 _ rfl;have p0:=ab hW.2 0 _ rfl;first|(go_simp; done)|(go_simp; with_reducible rfl)
  simp only[Act.put,List.setIfInBounds_toArray,List.set_cons_zero,List.set_cons_succ]
 refine gy ?_;clear E2 j1 j2;have T1:=aa HM.out.drew;have S1:=aa (Z5.out.below (Below.refl _ w1).drew);have Q9:=aa (S8.out.below (Below.refl _ w1).drew);have d8:=aa (d7.out.trans HM.out.kd (.inl rfl));have i1:=aa HB.out.drew;have M0:=S7.out.2.1;have N8:=S7.out.2.2;have d9:=aa S7.out.1;have q0:w1.drew.cell? ⟨g,j * 5,none⟩=some (.int .i64 x.entry):=M0 0 _ rfl;have q1:w1.drew.cell? ⟨g,j * 5+1,none⟩=some (.int .i64 x.day):=M0 1 _ rfl;have z0:w1.drew.frozen? ⟨g,j * 5,none⟩=false:=N8 (j * 5);obtain⟨pi,ci,f7⟩:=dt T1.out.ri;subst f7;have m2:=ab T1.out.box 2 _ rfl;clear M0 N8 HM Z5 S8 d7 HB S7;generalize w1.drew=w1d at *;have A2:=T1.out.setF (j:=j) (g:=g) (f:=0) (u:=.int .i64 m.ins.length) (fn:=fun w=>{ w with entry:=m.ins.length }) B0.out.2.2.2.2 d9.out (by decide) (fun _=>rfl);have R2:=aa (show MkAt mb sh (m.setW j fun w=>{ w with entry:=m.ins.length }) (.slice (some ⟨g,0,none⟩) m.ws.length cw) (.slice pi m.ins.length ci) vj kb (w1d.setCell ⟨g,j * 5,none⟩ (.int .i64 m.ins.length)) from A2.1);have Z0:=aa (show KpG mb kb none w (w1d.setCell ⟨g,j * 5,none⟩ (.int .i64 m.ins.length)) from d8.out.trans A2.2 (.inl rfl));have S0:=aa (show Bx mb [(B+1,#[.int .i64 op,.int .i64 n,.string s,.slice q ks.length c],24)] (w1d.setCell ⟨g,j * 5,none⟩ (.int .i64 m.ins.length)) from S1.out.kp A2.2 (u:=[]) am);have Q7:=aa (show Own1 mb 4 B #[.int .i64 j,.int .i64 op,.int .i64 n,.string s,.slice q ks.length c] 104 (w1d.setCell ⟨g,j * 5,none⟩ (.int .i64 m.ins.length)) from Q9.out.kp A2.2);clear A2 T1 S1 Q9 d8 i1 q1;go_upto_region 4 with(fail)
 clear q0 z0 m2;generalize World.setCell _ _ _=w2 at *;have g1:=@run_makeMap Tryz.prog;have BM:=(Below.refl w2.heap.size w2).alloc (Nat.le_refl _) (.map #[] 0);have Q0:=R2.out.below BM;have s1:=heap_setCell_same (w2.alloc (.map #[] 0)) mb 5 _ _ (.int .i64 0) Q0.box;have g6:=frozen_of (o:=5) Q0.box;have g4:=frozen_of (o:=6) s1;have m5:=ab Q0.box 5 _ rfl;have m6:=ab s1 6 _ rfl;have p1:=Q0.parts (m':={ (m.setW j fun w=>{ w with entry:=m.ins.length }) with next:=0 }) 5 (.int .i64 0) rfl rfl rfl rfl rfl rfl;have a1:=(Kn.made w2).kept (grown_set (w2.alloc (.map #[] 0)) mb 5 (.int .i64 0)) (fun e=>by have:=R2.out.lt; cases e; omega);have R1:=aa (show MkAt mb sh (waitIn j m) _ _ _ w2.heap.size _ from MkAt.reset (m':=waitIn j m) (kb':=w2.heap.size) 6 (.map (some w2.heap.size)) p1.1.box rfl p1.1.rw p1.1.ri p1.1.rj ⟨0,Nat.zero_le _,a1⟩ R2.out.lt);have S2:=((KpG.of (mb:=mb) (kb:=kb) (ub:=none) BM (Nat.le_of_lt R2.out.lt)).trans p1.2 (.inl rfl)).trans (zbr (kb:=kb) (ub:=none) 6 (.map (some w2.heap.size)) p1.1.box (by rintro _ (rfl|rfl)<;>rfl)) (.inl rfl);have R9:=aa (S0.out.kp S2 (u:=[]) am);have Q6:=aa (Q7.out.kp S2);have M4:=aa (show(w2.heap.size=kb∨w.heap.size≤w2.heap.size)∧KpG mb kb none w _ from⟨.inr Z0.out.bel.size,Z0.out.trans S2 (.inl rfl)⟩);clear p1 a1 S2 Q0 BM R2 S0 Q7 Z0;go_upto_region 5 with(fail)
 clear m5 m6 s1 g6 g4 g1;generalize World.setCell _ _ _=w3 at *;obtain⟨E1,X6⟩:∃ E1,Hid (w2.heap.size=E1):=⟨_,aa rfl⟩
 rw[X6.out] at R1 M4;go_upto_region 6 with(fail)
 have BN:=(Below.refl w3.heap.size w3).alloc (Nat.le_refl _) (.cells #[.slice none 0 0] 141);have yn:=heap_alloc_new w3 (.cells #[.slice none 0 0] 141);have F2:=aa (R1.out.below BN);have A1:=aa (R9.out.below BN);have B6:=aa (Q6.out.below BN);have D1:=aa (show(E1=kb∨w.heap.size≤E1)∧KpG mb kb (some w3.heap.size) w _ from⟨M4.out.1,(M4.out.2.trans (KpG.of BN (Nat.le_of_lt R1.out.lt)) M4.out.1).wk⟩);have B9:=aa (show UnkO mb (some w3.heap.size) [] _ from fun b e=>by cases e; exact UnkAt.new yn R1.out.lt);have Q3:=aa (show w.heap.size≤w3.heap.size from M4.out.2.bel.size);obtain⟨ub,f9⟩:∃ ub,Hid (w3.heap.size=ub):=⟨_,aa rfl⟩
 rw[f9.out] at D1 B9 Q3 ⊢;clear R1 R9 Q6 M4 BN yn;generalize World.alloc _ _=w4 at *;have D4:=aa (show Fit k (waitIn j m) from(HF.out.setW j _).fresh);have R3:=aa (show(waitIn j m).ins.length≤700000 by have:=B0.out; show m.ins.length≤_; omega);have c0:=ab (A1.out.at' _ (.head _)) 0 _ rfl;simp only at c0;go_upto_block 0 with(fail)
 go_cut [39] (fun bb wx=>True∧Mid mb kb ub B j sh (wait sh j (T.mk op n s ks) m) #[.int .i64 j,.int .i64 op,.int .i64 n,.string s,.slice q ks.length c] w wx);case first=>
  clear c0;rcases bz HX.out with(⟨rfl,B3⟩|⟨rfl,B3⟩)|⟨h1,a,B3,ha⟩|⟨rfl,o,a,B3,ho,ha⟩|⟨h1,a,b,B3,ha,hb⟩|⟨rfl,o,a,b,B3,ho,ha,hb⟩|⟨rfl,o,a,B3,ho,ha⟩
  ·have h:=S6.out; rw[bv (by omega)] at h; cases h
  ·have h:=S6.out; rw[bv (by omega)] at h; cases h
  ·rcases h1 with rfl|rfl
   ·have h:=S6.out; rw[bv (by omega)] at h; cases h
   ·have A8:=aa B3;have B8:=aa (show(T.mk 29 n s ks).size=1+(a.size) by rw[T.size,B3]; simp[sizes]);have B7:=aa (show(T.mk 29 n s ks).ks[0]? = some a by show ks[0]? = some a; rw[B3]; rfl);obtain⟨cb,off,_,_,_,_,_,_,hq,E7, -⟩:=dz (t:=.mk 29 n s ks) F8.out B7.out;subst hq;have M5:=aa E7;clear E7;clear B3;have c0:=ab (A1.out.at' _ (.head _)) 0 _ rfl;have c1:=ab (A1.out.at' _ (.head _)) 1 _ rfl;have c2:=ab (A1.out.at' _ (.head _)) 2 _ rfl;have c3:=ab (A1.out.at' _ (.head _)) 3 _ rfl;simp only at c0 c1 c2 c3;have J1:=aa ha;have Z2:=aa (show Fit k ((waitIn j m).setW j fun w=>{ w with day:=n }) from D4.out.setW j _);have R8:=aa (Z2.out.lay (ix 22 0 0 n));have I0:=aa (cx sh 200 a _ _ ha R8.out);have F7:=aa (kq sh 200 a (((waitIn j m).setW j fun w=>{ w with day:=n }).lay (ix 22 0 0 n)));obtain⟨C,hC⟩:∃ C,Hid (con sh 200 a (((waitIn j m).setW j fun w=>{ w with day:=n }).lay (ix 22 0 0 n))=C):=⟨_,aa rfl⟩
    rw[hC.out] at I0 F7;have HE:=aa (show wait sh j (T.mk 29 n s ks) m=again j C [(waitIn j m).ins.length] by rw[kg rfl,show(T.mk 29 n s ks).kid 0=a by rw[A8.out]; rfl]; exact congrArg (fun x=>again j x _) hC.out);clear ha;have F9:(waitIn j m).ws[j]? = some { x with entry:=m.ins.length }:=zlz _ Y4.out;obtain⟨g',cw',J6,L1, -,G1,G0⟩:=F2.out.wcell F9;obtain rfl:g=g':=Option.some.inj L1;have q1:w4.cell? ⟨g,j * 5+1,none⟩=some (.int .i64 x.day):=G1 1 _ rfl;have z1:=G0 (j * 5+1);have A2:=F2.out.setF (j:=j) (g:=g) (f:=1) (u:=.int .i64 n) (fn:=fun w=>{ w with day:=n }) (List.getElem?_eq_some_iff.1 F9).1 L1 (by decide) (fun _=>rfl);have D0:=aa A2.1;have C4:=aa (And.intro D1.out.1 (D1.out.2.trans A2.2.wk D1.out.1));have A0:=aa (A1.out.kp A2.2 (u:=[]) am);have A4:=aa (B6.out.kp A2.2);have B5:=aa (B9.out.kp A2.2);clear A2 G1 G0 J6 L1 F9;go_upto_region 9 with(fail)
    clear q1 z1 F2 D1 A1 B6 B9 c0 c1 c2 c3;generalize World.setCell _ _ _=w5 at *;have c0:=ab (A0.out.at' _ (.head _)) 0 _ rfl;have c1:=ab (A0.out.at' _ (.head _)) 1 _ rfl;have c2:=ab (A0.out.at' _ (.head _)) 2 _ rfl;have c3:=ab (A0.out.at' _ (.head _)) 3 _ rfl;simp only at c0 c1 c2 c3;have Y8:=aa (show((waitIn j m).setW j fun w=>{ w with day:=n }).ins.length≤700000 from R3.out);obtain⟨⟨vu,fs,u1,u2,u3⟩,u4⟩:=B5.out ub rfl;have HU:=aa (And.intro u1 (And.intro u2 (And.intro u3 u4)));clear u1 u2 u3 u4;have E2:w5.drew.heap[ub]? = some (.cells #[vu] 141 (0,0))∧w5.drew.heap[B+1]? = some (.cells #[.int .i64 29,.int .i64 n,.string s,.slice (some ⟨cb,off,none⟩) ks.length c] 24 (0,0)):=⟨HU.out.1,A0.out.at' _ (.head _)⟩
    have D4:=aa E2;have Y5:=aa (show(([]:List Nat)).length≤700000 by exact Nat.zero_le _);go_upto_region 9 with(fail)
    clear c0 c1 c2 c3;refine ed (fun W=>W.heap[ub]? = some (.cells #[vu] 141 (0,0))∧W.heap[B+1]? = some (.cells #[.int .i64 29,.int .i64 n,.string s,.slice (some ⟨cb,off,none⟩) ks.length c] 24 (0,0))) 8 [false,false,false,false,true,true,true,true,true] (by kernel_rfl) (by kernel_rfl) (by kernel_rfl) E2 ?_;clear E2;iterate 4
     apply dn
     ·rfl
     ·intro W hW;have p0:=ab hW.1 0 _ rfl;have p1:=ab hW.2 1 _ rfl;first|(go_simp; done)|(go_simp; with_reducible rfl)
     simp only[Act.put,List.setIfInBounds_toArray,List.set_cons_zero,List.set_cons_succ]
    have P1:=D0.out.drew;refine dl (v:=.agg #[.int .i64 22,.int .i64 0,.int .i64 0,.int .i64 0,.int .i64 n,.string ⟨#[]⟩,.int .i64 0]) (w':=w5.drew) ?_ ?_ ?_ ?_
    ·rfl
    ·first|(go_simp; done)|(go_simp; with_reducible rfl)
    ·exact .inr D4.out
    simp only[Act.put,List.setIfInBounds_toArray,List.set_cons_zero,List.set_cons_succ];refine jk 106 #[.pointer (some ⟨mb,0,none⟩),.agg #[.int .i64 22,.int .i64 0,.int .i64 0,.int .i64 0,.int .i64 n,.string ⟨#[]⟩,.int .i64 0]] (fun f w'=>JumpFn mb w' f ((waitIn j m).setW j fun w=>{ w with day:=n }).ins.length∧Lays mb E1 none sh (((waitIn j m).setW j fun w=>{ w with day:=n }).lay (ix 22 0 0 n)) w5.drew w') ?_ ?_ ?_ ?_
    ·rfl
    ·go_simp
    ·refine(gh mb E1 sh ((waitIn j m).setW j fun w=>{ w with day:=n }) (.slice (some ⟨g,0,none⟩) m.ws.length cw) (.slice pi m.ins.length ci) vj (ix 22 0 0 n) w5.drew P1 (by have:=Y8.out; omega)).mono ?_;rintro e w' ⟨f,h1,h2,h3⟩;exact⟨f,h1,h2,h3⟩
    rintro f wA ⟨⟨C6,C5,rfl,X9⟩,C7⟩;have P8:JumpFn mb wA (.func (.func 150) #[] #[.pointer (some ⟨C6,0,none⟩),.pointer (some ⟨C5,0,none⟩)]) ((waitIn j m).setW j fun w=>{ w with day:=n }).ins.length:=⟨C6,C5,rfl,X9⟩
    have Y9:=aa C7;have L3:=C7.box (k:=ub) (by have:=HU.out.2.2.2; omega) (by decide) (by decide) (by decide) D4.out.1;have L2:=C7.box (k:=B+1) (by have:=(A0.out.ok _ (.head _)).1; simp only at this; omega) (by decide) (by decide) (by decide) D4.out.2;have D6:wA.ownsRow (mb+1) 1 1 vu (([]:List Nat)).length fs:=by
     refine⟨HU.out.2.1.1,?_⟩;rcases HU.out.2.1.2 with h5|⟨g,cap,cur,e1,e2,e3,e4⟩
     ·exact .inl h5
     ·exact .inr ⟨g,cap,cur,e1,e2,C7.box (k:=g) (by omega) (by decide) (by decide) (by decide) e3,e4⟩
    have P9:∀(i:Nat) p,(([]:List Nat))[i]? = some p→∃ f,fs[i]? = some f∧JumpFn mb wA f p:=fun i p hp=>by
     obtain⟨f',h1,h2⟩:=HU.out.2.2.1 i p hp;exact⟨f',h1,(h2.below (Below.refl _ w5).drew).kp C7.kp (fun u e=>by cases e)⟩
    have H1:=aa ((A4.out.below (Below.refl _ w5).drew).kp C7.kp);have H7:=aa ((A0.out.below (Below.refl _ w5).drew).kp C7.kp (u:=[]) am);obtain⟨vwA,viA,vjA,kbA,mA,P6⟩:=KpG.next (show(E1=kb∨w.heap.size≤E1)∧KpG mb kb (some ub) w w5.drew from⟨C4.out.1,C4.out.2.trans D0.out.kd C4.out.1⟩) C7.wk;have L4:=aa mA;have I8:=aa P6;refine⟨.inr ⟨L3,L2⟩,?_⟩;clear mA P6 C7 P1 Y9 HU D4 D0 C4 A0 A4 B5;simp only[Act.put,List.setIfInBounds_toArray,List.set_cons_zero,List.set_cons_succ];have C9:=(Below.refl wA.heap.size wA).alloc (Nat.le_refl _) (.cells #[(.func (.func 150) #[] #[.pointer (some ⟨C6,0,none⟩),.pointer (some ⟨C5,0,none⟩)])] 1);have J7:=heap_alloc_new wA (.cells #[(.func (.func 150) #[] #[.pointer (some ⟨C6,0,none⟩),.pointer (some ⟨C5,0,none⟩)])] 1);have G9:=ag C9 L3;have G8:=ag C9 L2;refine dl (v:=.slice (some ⟨wA.heap.size,0,none⟩) 1 1) (w':=wA.alloc (.cells #[(.func (.func 150) #[] #[.pointer (some ⟨C6,0,none⟩),.pointer (some ⟨C5,0,none⟩)])] 1)) ?_ ?_ ?_ ?_
    ·rfl
    ·first|(go_simp; done)|(go_simp; with_reducible rfl)
    ·exact .inr ⟨G9,G8⟩
    simp only[Act.put,List.setIfInBounds_toArray,List.set_cons_zero,List.set_cons_succ];have H9:∀(i:Nat) p,(([]:List Nat))[i]? = some p→∃ f',fs[i]? = some f'∧JumpFn mb (wA.alloc (.cells #[(.func (.func 150) #[] #[.pointer (some ⟨C6,0,none⟩),.pointer (some ⟨C5,0,none⟩)])] 1)) f' p:=fun i p hp=>by
     obtain⟨f',h1,h2⟩:=P9 i p hp;exact⟨f',h1,h2.below C9⟩
    have G7:=P8.below C9;have E4:=aa (L4.out.below C9);have D2:=aa (show(kbA=kb∨w.heap.size≤kbA)∧KpG mb kb (some ub) w _ from⟨I8.out.1,I8.out.2.trans (KpG.of C9 (Nat.le_of_lt L4.out.lt)) I8.out.1⟩);have A4:=aa (H1.out.below C9);have A0:=aa (H7.out.below C9);have X4:mb<(wA.alloc (.cells #[(.func (.func 150) #[] #[.pointer (some ⟨C6,0,none⟩),.pointer (some ⟨C5,0,none⟩)])] 1)).heap.size:=E4.out.lt;have A5:=World.ownsRow.alloc D6 (.cells #[(.func (.func 150) #[] #[.pointer (some ⟨C6,0,none⟩),.pointer (some ⟨C5,0,none⟩)])] 1);have E3:=aa (show mb<ub by have:=Q3.out; have:=d3.out; omega);obtain⟨wAs,G2⟩:∃ k,wA.heap.size=k:=⟨_,rfl⟩
    rw[G2] at J7 ⊢;clear C9 L3 L2 P9 D6 G2 L4 I8 H1 H7 P8;generalize World.alloc wA _=wB at *;obtain⟨ti,T8,T7,T6,T5⟩:=info_split zcq;have f8:=Y5.out;refine ky _ _ 141 rfl rfl (mb+1) 1 ti _ 1 8 Tryz.underlying141 T8 T7 T6 T5 rfl (by decide) vu _ _ rfl A5 ⟨wAs,0,none⟩ 1 1 [(.func (.func 150) #[] #[.pointer (some ⟨C6,0,none⟩),.pointer (some ⟨C5,0,none⟩)])] rfl rfl
     (fun j y hj=>?_) (fun y hy=>?_) (by decide) (by unfold maxLen; omega) (by omega) (by omega) (fun gq cap wC G3 I5 Y2 X5=>?_)
    ·rw[add_gen,Nat.zero_add];unfold World.cell?;simp only[J7];simpa using hj
    ·simp only[List.mem_cons,List.not_mem_nil,or_false] at hy;subst hy;rfl
    have A6:=UnkAt.push (W:=wB) E3.out G9 A5 H9 G7 G3 I5;have F6:=tj (v:=.slice (some ⟨gq,0,none⟩) ((([]:List Nat)).length+1) cap) E4.out E3.out G9 A6.2 A5 I5;have E0:=aa F6.1;have C3:=aa (show(kbA=kb∨w.heap.size≤kbA)∧KpG mb kb (some ub) w _ from⟨D2.out.1,D2.out.2.trans F6.2 D2.out.1⟩);have B4:=aa (A4.out.kp F6.2);have F0:UnkO mb (some ub) (([]:List Nat)) wB:=fun b e=>by cases e; exact⟨⟨vu,fs,G9,A5,H9⟩,E3.out⟩
    have A3:=aa (A0.out.kp F6.2 F0);have A9:=aa (show UnkO mb (some ub) ((([]:List Nat))++[((waitIn j m).setW j fun w=>{ w with day:=n }).ins.length]) _ from fun b e=>by cases e; exact A6.1);have D9:wC.heap[ub]? = some (.cells #[vu] 141 (0,0))∧wC.heap[B+1]? = some (.cells #[.int .i64 29,.int .i64 n,.string s,.slice (some ⟨cb,off,none⟩) ks.length c] 24 (0,0)):=⟨A6.2,by
     have X2:vu.ownBlock≠some (B+1):=fun e=>by
      obtain⟨-,cur,e2⟩:=ei A5 e;rw[G8] at e2;simp at e2
     exact(I5.block (B+1) (af G8) (fun e=>X2 e.symm)).trans G8⟩
    have f0:=frozen_of (o:=0) A6.2;have k0:=ab A6.2 0 _ rfl;refine⟨.inr D9,?_⟩;simp only[Act.put,List.setIfInBounds_toArray,List.set_cons_zero,List.set_cons_succ];refine jh (w':=wC.setCell ⟨ub,0,none⟩ (.slice (some ⟨gq,0,none⟩) ((([]:List Nat)).length+1) cap)) ?_ ?_ ?_ ?_
    ·rfl
    ·go_simp
    ·exact .inl (Nat.le_refl _)
    refine gy ?_;clear A6 F6 F0 G3 I5 Y2 X5 A5 H9 G7 G9 G8 E4 D2 A4 A0 f0 k0 D9 J7;generalize World.setCell _ _ _=w6 at *;obtain⟨L5,O1⟩:∃ v,v=vwA:=⟨_,rfl⟩
    obtain⟨L7,O5⟩:∃ v,v=viA:=⟨_,rfl⟩
    obtain⟨L6,O3⟩:∃ v,v=vjA:=⟨_,rfl⟩
    obtain⟨L9,J9⟩:∃ v,v=kbA:=⟨_,rfl⟩
    rw[←O1,←O5,←O3,←J9] at E0;rw[←J9] at C3;clear O1 O5 O3 J9;have c0:=ab (A3.out.at' _ (.head _)) 0 _ rfl;have c1:=ab (A3.out.at' _ (.head _)) 1 _ rfl;have c2:=ab (A3.out.at' _ (.head _)) 2 _ rfl;have c3:=ab (A3.out.at' _ (.head _)) 3 _ rfl;simp only at c0 c1 c2 c3;obtain⟨kop,kn,kst,pk,kl,ck,D5,r0,r1,r2,r3⟩:=ft (t:=.mk 29 n s ks) (kids_kept F8.out C3.out.2.bel) (i:=0) B7.out;simp only[Nat.zero_mul,Nat.add_zero,Nat.one_mul,Nat.reduceMul] at r0 r1 r2 r3;have j2:(0:Int)<(ks.length:Int):=by have:=congrArg List.length A8.out; simp at this; omega
    have j5:ks≠[]:=by rw[A8.out]; simp
    have j3:0<ks.length:=List.length_pos_iff.2 j5;have HC:=aa (sr sh 200 a (((waitIn j m).setW j fun w=>{ w with day:=n }).lay (ix 22 0 0 n)) _ mb L9 L5 L7 L6 _ w6 J1.out (H6.out a (by rw[A8.out]; simp)) D5 E0.out R8.out (by have:=B0.out; have:=B8.out; omega));rw[hC.out] at HC;clear D5;go_wp2_with fail
    refine HC.out.mono ?_;rintro e w7 ⟨⟨r7,rfl⟩,D7⟩;clear HC;have A7:=aa (A3.out.kp D7.kp (u:=[]) am);have C0:=aa (A9.out.kp D7.kp);have C1:=aa (B4.out.kp D7.kp);obtain⟨T2,T4,T3,L8,m7,I9⟩:=KpG.next C3.out D7.wk;have F1:=aa m7;have E5:=aa I9;clear D7 m7 I9 E0 C3 A3 B4 A9 c0 c1 c2 c3 r0 r1 r2 r3 j2 j3 j5;have c0:=ab (A7.out.at' _ (.head _)) 0 _ rfl;have c1:=ab (A7.out.at' _ (.head _)) 1 _ rfl;have c2:=ab (A7.out.at' _ (.head _)) 2 _ rfl;have c3:=ab (A7.out.at' _ (.head _)) 3 _ rfl;simp only at c0 c1 c2 c3;go_wp2_with fail
    go_meet;refine⟨trivial,⟨C,_,_,_,_,_,HE.out,F1.out,E5.out.1,E5.out.2,C1.out,C0.out,(by have:=I0.out.len; have:=B0.out; have:=B8.out; omega),(by simp),(fun p hp=>by rw[List.mem_singleton] at hp; subst hp; have:=F7.out.2; rw[ah] at this; exact this),(by have h1:=F7.out.1; have h2:=B0.out.2.2.2.2; have h3:(((waitIn j m).setW j fun w=>{ w with day:=n }).lay (ix 22 0 0 n)).ws.length=m.ws.length:=(by simp[Mk.lay,Mk.setW,waitIn,Mk.fresh]); omega)⟩⟩
  ·have A8:=aa B3;have B8:=aa (show(T.mk 26 n s ks).size=1+(o.size+(a.size)) by rw[T.size,B3]; simp[sizes]);have B7:=aa (show(T.mk 26 n s ks).ks[0]? = some o by show ks[0]? = some o; rw[B3]; rfl);have H4:=aa (show(T.mk 26 n s ks).ks[1]? = some a by show ks[1]? = some a; rw[B3]; rfl);obtain⟨cb,off,_,_,_,_,_,_,hq,E7, -⟩:=dz (t:=.mk 26 n s ks) F8.out B7.out;subst hq;have M5:=aa E7;clear E7;clear B3;have c0:=ab (A1.out.at' _ (.head _)) 0 _ rfl;have c1:=ab (A1.out.at' _ (.head _)) 1 _ rfl;have c2:=ab (A1.out.at' _ (.head _)) 2 _ rfl;have c3:=ab (A1.out.at' _ (.head _)) 3 _ rfl;simp only at c0 c1 c2 c3;have J1:=aa ha;have Q5:=aa (dc ho);have E6:=aa (co sh 200 o _ [] _ (dc ho) D4.out);have J3:=aa (og sh 200 o (waitIn j m) [] (fun p hp=>by cases hp));have J2:=aa (zbh sh 200 o (waitIn j m) []);obtain⟨O,hO⟩:∃ O,Hid (obs sh 200 o (waitIn j m) []=O):=⟨_,aa rfl⟩
   rw[hO.out] at E6 J3 J2;have R7:=aa (E6.out.m.lay (ix 23 0 O.1 0));have I0:=aa (cx sh 200 a _ _ ha R7.out);have F7:=aa (kq sh 200 a (O.2.1.lay (ix 23 0 O.1 0)));obtain⟨C,hC⟩:∃ C,Hid (con sh 200 a (O.2.1.lay (ix 23 0 O.1 0))=C):=⟨_,aa rfl⟩
   rw[hC.out] at I0 F7;have HE:=aa (show wait sh j (T.mk 26 n s ks) m=again j C O.2.2 by rw[fx rfl,show(T.mk 26 n s ks).kid 0=o by rw[A8.out]; rfl,show(T.mk 26 n s ks).kid 1=a by rw[A8.out]; rfl,hO.out,hC.out]);clear ha ho;obtain⟨kop,kn,kst,pk,kl,ck,D5,r0,r1,r2,r3⟩:=ft (t:=.mk 26 n s ks) (kids_kept F8.out D1.out.2.bel) (i:=0) B7.out;simp only[Nat.zero_mul,Nat.add_zero,Nat.one_mul,Nat.reduceMul] at r0 r1 r2 r3;have j2:(0:Int)<(ks.length:Int):=by have:=congrArg List.length A8.out; simp at this; omega
   have j5:ks≠[]:=by rw[A8.out]; simp
   have j3:0<ks.length:=List.length_pos_iff.2 j5;have HC:=aa (ye sh 200 o (waitIn j m) [] _ mb E1 (some ub) (.slice (some ⟨g,0,none⟩) m.ws.length cw) (.slice pi m.ins.length ci) vj _ w4 Q5.out (H6.out o (by rw[A8.out]; simp)) D5 F2.out B9.out (fun e=>by cases e) D4.out (by have:=B0.out; have:=B8.out; omega) (by have:=B0.out; have:=B8.out; show 0+8 * _≤_; omega));rw[show my (some ub)=Value.pointer (some ⟨ub,0,none⟩) from rfl,hO.out] at HC;clear D5;go_wp2_with fail
   refine HC.out.mono ?_;rintro e w5 ⟨rfl,D3,H8⟩;have B5:=aa H8;clear HC H8;have A0:=aa (A1.out.kp D3.kp B9.out);have A4:=aa (B6.out.kp D3.kp);obtain⟨M7,I2,I1,F5,m5,G5⟩:=KpG.next D1.out D3;have D0:=aa m5;have C4:=aa G5;clear D3 m5 G5 F2 D1 A1 B6 B9 c0 c1 c2 c3 r0 r1 r2 r3 j2 j3 j5;have c0:=ab (A0.out.at' _ (.head _)) 0 _ rfl;have c1:=ab (A0.out.at' _ (.head _)) 1 _ rfl;have c2:=ab (A0.out.at' _ (.head _)) 2 _ rfl;have c3:=ab (A0.out.at' _ (.head _)) 3 _ rfl;simp only at c0 c1 c2 c3;have E8:=aa (ir mb F5 sh (O.2.1) M7 I2 I1 (ix 23 0 O.1 0) w5 D0.out (by have:=E6.out.m.len; have:=B0.out; have:=B8.out; omega));try unfold ix at E8
   try unfold txt0 at E8
   go_wp2_with fail
   refine E8.out.mono ?_;rintro e w6 ⟨rfl,C8⟩;clear E8;have A3:=aa (A0.out.kp C8.kp (u:=[]) am);have A9:=aa (B5.out.kp C8.kp);have B4:=aa (A4.out.kp C8.kp);obtain⟨L5,L7,L6,L9,m6,J0⟩:=KpG.next C4.out C8.wk;have E0:=aa m6;have C3:=aa J0;clear C8 m6 J0 D0 C4 A0 A4 B5 c0 c1 c2 c3;have c0:=ab (A3.out.at' _ (.head _)) 0 _ rfl;have c1:=ab (A3.out.at' _ (.head _)) 1 _ rfl;have c2:=ab (A3.out.at' _ (.head _)) 2 _ rfl;have c3:=ab (A3.out.at' _ (.head _)) 3 _ rfl;simp only at c0 c1 c2 c3;obtain⟨kop,kn,kst,pk,kl,ck,D5,r0,r1,r2,r3⟩:=ft (t:=.mk 26 n s ks) (kids_kept F8.out C3.out.2.bel) (i:=1) H4.out;simp only[Nat.zero_mul,Nat.add_zero,Nat.one_mul,Nat.reduceMul] at r0 r1 r2 r3;have j2:(1:Int)<(ks.length:Int):=by have:=congrArg List.length A8.out; simp at this; omega
   have HC:=aa (sr sh 200 a (O.2.1.lay (ix 23 0 O.1 0)) _ mb L9 L5 L7 L6 _ w6 J1.out (H6.out a (by rw[A8.out]; simp)) D5 E0.out R7.out (by have:=B0.out; have:=B8.out; omega));rw[hC.out] at HC;clear D5;go_wp2_with fail
   refine HC.out.mono ?_;rintro e w7 ⟨⟨r7,rfl⟩,D7⟩;clear HC;have A7:=aa (A3.out.kp D7.kp (u:=[]) am);have C0:=aa (A9.out.kp D7.kp);have C1:=aa (B4.out.kp D7.kp);obtain⟨T2,T4,T3,L8,m7,I9⟩:=KpG.next C3.out D7.wk;have F1:=aa m7;have E5:=aa I9;clear D7 m7 I9 E0 C3 A3 B4 A9 c0 c1 c2 c3 r0 r1 r2 r3 j2;have c0:=ab (A7.out.at' _ (.head _)) 0 _ rfl;have c1:=ab (A7.out.at' _ (.head _)) 1 _ rfl;have c2:=ab (A7.out.at' _ (.head _)) 2 _ rfl;have c3:=ab (A7.out.at' _ (.head _)) 3 _ rfl;simp only at c0 c1 c2 c3;go_wp2_with fail
   go_meet;refine⟨trivial,⟨C,_,_,_,_,_,HE.out,F1.out,E5.out.1,E5.out.2,C1.out,C0.out,(by have:=I0.out.len; have:=B0.out; have:=B8.out; omega),(by have:=E6.out.u; have:=B0.out; have:=B8.out; have h:([]:List Nat).length=0:=rfl; omega),(J3.out.more (by have h:=F7.out.2; rw[ah] at h; omega)),(by have h1:=F7.out.1; have h2:=J2.out; have h3:=B0.out.2.2.2.2; have h4:(waitIn j m).ws.length=m.ws.length:=(by simp[Mk.setW,waitIn,Mk.fresh]); have h5:(O.2.1.lay (ix 23 0 O.1 0)).ws.length=O.2.1.ws.length:=rfl; omega)⟩⟩
  ·rcases h1 with rfl|rfl
   ·have h:=S6.out; rw[bv (by omega)] at h; cases h
   ·have A8:=aa B3;have B8:=aa (show(T.mk 31 n s ks).size=1+(a.size+(b.size)) by rw[T.size,B3]; simp[sizes]);have B7:=aa (show(T.mk 31 n s ks).ks[0]? = some a by show ks[0]? = some a; rw[B3]; rfl);have H4:=aa (show(T.mk 31 n s ks).ks[1]? = some b by show ks[1]? = some b; rw[B3]; rfl);obtain⟨cb,off,_,_,_,_,_,_,hq,E7, -⟩:=dz (t:=.mk 31 n s ks) F8.out B7.out;subst hq;have M5:=aa E7;clear E7;clear B3;have c0:=ab (A1.out.at' _ (.head _)) 0 _ rfl;have c1:=ab (A1.out.at' _ (.head _)) 1 _ rfl;have c2:=ab (A1.out.at' _ (.head _)) 2 _ rfl;have c3:=ab (A1.out.at' _ (.head _)) 3 _ rfl;simp only at c0 c1 c2 c3;have J1:=aa ha;have d1:=aa hb;have Z3:=aa (zrq HX.out (.inr (.inr rfl)));have HE:=aa (show wait sh j (T.mk 31 n s ks) m=wy sh j (T.mk 31 n s ks) (waitIn j m) from ij rfl);have o0:=ab B6.out.2.1 0 _ rfl;have o1:=ab B6.out.2.1 1 _ rfl;have o2:=ab B6.out.2.1 2 _ rfl;have o3:=ab B6.out.2.1 3 _ rfl;have o4:=ab B6.out.2.1 4 _ rfl;have b2:ks.length=2:=by rw[A8.out]; rfl
    have b6:j<(waitIn j m).ws.length:=by have h4:(waitIn j m).ws.length=m.ws.length:=(by simp[Mk.setW,waitIn,Mk.fresh]); have:=B0.out.2.2.2.2; omega
    have hp:=zub sh j n s a b (waitIn j m) k mb E1 (.slice (some ⟨g,0,none⟩) m.ws.length cw) (.slice pi m.ins.length ci) vj cb off c w4 ha hb (H6.out a (by rw[A8.out]; simp)) (H6.out b (by rw[A8.out]; simp)) Z3.out (by have h:=Z4.out w4 D1.out.2.bel; rw[A8.out] at h; exact h) F2.out b6 D4.out (by have:=B0.out; have:=B8.out; omega);rw[show T.mk 31 n s [a,b]=T.mk 31 n s ks by rw[A8.out]] at hp;have HP:=aa (show Calls Tryz.prog 107 #[.pointer (some ⟨mb,0,none⟩),.agg #[.int .i64 j,.int .i64 31,.int .i64 n,.string s,.slice (some ⟨cb,off,none⟩) ks.length c]] w4 (fun e w'=>(∃ r,e=.returned r)∧Lays mb E1 none sh (wy sh j (.mk 31 n s ks) (waitIn j m)) w4 w') by rw[b2]; exact hp);clear ha hb hp b2 b6 c0 c1 c2 c3;go_wp2_with fail
    refine HP.out.mono ?_;rintro e w5 ⟨⟨r5,rfl⟩,D3⟩;obtain⟨M7,I2,I1,F5,m5,G5⟩:=KpG.next D1.out D3.wk;have D0:=aa m5;have C4:=aa G5;clear D3 m5 G5 HP o0 o1 o2 o3 o4;go_wp2_with fail
    refine bodyPost_ret (results_none rfl _ _ _) rfl ?_;rw[HE.out];exact⟨⟨_,rfl⟩,ub,Q3.out,⟨_,_,_,_,D0.out,C4.out.1⟩,C4.out.2⟩
  ·have A8:=aa B3;have B8:=aa (show(T.mk 28 n s ks).size=1+(o.size+(a.size+(b.size))) by rw[T.size,B3]; simp[sizes]);have B7:=aa (show(T.mk 28 n s ks).ks[0]? = some o by show ks[0]? = some o; rw[B3]; rfl);have H4:=aa (show(T.mk 28 n s ks).ks[1]? = some a by show ks[1]? = some a; rw[B3]; rfl);have g8:=aa (show(T.mk 28 n s ks).ks[2]? = some b by show ks[2]? = some b; rw[B3]; rfl);obtain⟨cb,off,_,_,_,_,_,_,hq,E7, -⟩:=dz (t:=.mk 28 n s ks) F8.out B7.out;subst hq;have M5:=aa E7;clear E7;clear B3;have c0:=ab (A1.out.at' _ (.head _)) 0 _ rfl;have c1:=ab (A1.out.at' _ (.head _)) 1 _ rfl;have c2:=ab (A1.out.at' _ (.head _)) 2 _ rfl;have c3:=ab (A1.out.at' _ (.head _)) 3 _ rfl;simp only at c0 c1 c2 c3;have J1:=aa ha;have d1:=aa hb;have Q5:=aa (cf ho);have E6:=aa (co sh 200 o _ [] _ (cf ho) D4.out);have J3:=aa (og sh 200 o (waitIn j m) [] (fun p hp=>by cases hp));have J2:=aa (zbh sh 200 o (waitIn j m) []);obtain⟨O,hO⟩:∃ O,Hid (obs sh 200 o (waitIn j m) []=O):=⟨_,aa rfl⟩
   rw[hO.out] at E6 J3 J2;have HE:=aa (show wait sh j (T.mk 28 n s ks) m=again j (either (con sh 200) O.1 (T.mk 28 n s ks) O.2.1) O.2.2 by rw[kf rfl,show(T.mk 28 n s ks).kid 0=o by rw[A8.out]; rfl,hO.out]);have X8:(T.mk 28 n s ks).kid 1=a:=by rw[A8.out]; rfl
   have X7:(T.mk 28 n s ks).kid 2=b:=by rw[A8.out]; rfl
   have Y1:=tm (con:=con sh 200) (t:=T.mk 28 n s ks) O.1 E6.out.m (fun k m h=>by rw[X8]; exact cx sh 200 a m k ha h) (fun k m h=>by rw[X7]; exact cx sh 200 b m k hb h);rw[X8,X7] at Y1;have g9:=aa Y1;have e0:=aa (zrk O.1 (T.mk 28 n s ks) O.2.1 (kq sh 200));have i0:=aa (A1.out.at' _ (.head _));clear ha hb ho X8 X7 Y1;obtain⟨kop,kn,kst,pk,kl,ck,D5,r0,r1,r2,r3⟩:=ft (t:=.mk 28 n s ks) (kids_kept F8.out D1.out.2.bel) (i:=0) B7.out;simp only[Nat.zero_mul,Nat.add_zero,Nat.one_mul,Nat.reduceMul] at r0 r1 r2 r3;have j2:(0:Int)<(ks.length:Int):=by have:=congrArg List.length A8.out; simp at this; omega
   have j5:ks≠[]:=by rw[A8.out]; simp
   have j3:0<ks.length:=List.length_pos_iff.2 j5;have HC:=aa (ye sh 200 o (waitIn j m) [] _ mb E1 (some ub) (.slice (some ⟨g,0,none⟩) m.ws.length cw) (.slice pi m.ins.length ci) vj _ w4.drew Q5.out (H6.out o (by rw[A8.out]; simp)) (D5.kept ((Below.refl mb _).drew) (Nat.le_refl _)) F2.out.drew (B9.out.below (Below.refl _ _).drew) (fun e=>by cases e) D4.out (by have:=B0.out; have:=B8.out; omega) (by have:=B0.out; have:=B8.out; show 0+8 * _≤_; omega));rw[show my (some ub)=Value.pointer (some ⟨ub,0,none⟩) from rfl,hO.out] at HC;clear D5;go_upto_region 22 with(fail)
   clear c0 c1 c2 c3;refine zas (fun W=>W.heap[B+1]? = some (.cells #[.int .i64 28,.int .i64 n,.string s,.slice (some ⟨cb,off,none⟩) ks.length c] 24 (0,0))∧W.heap[cb]? = w4.heap[cb]?) [(0,false),(1,false),(2,false),(3,false),(4,false),(5,false),(7,false),(6,true),(8,true)] (by kernel_rfl) (by kernel_rfl) (by kernel_rfl) ⟨i0.out,rfl⟩ ?_;iterate 7
    apply zcv (ho:=rfl)
    ·rfl
    ·intro W hW;have p0:=ab hW.1 0 _ rfl;have p1:=ab hW.1 1 _ rfl;have p2:=ab hW.1 2 _ rfl;have p3:=ab hW.1 3 _ rfl;have s0:=il r0 hW.2;have s1:=il r1 hW.2;have s2:=il r2 hW.2;have s3:=il r3 hW.2;first|(go_simp; done)|(go_simp; with_reducible rfl)
    simp only[Act.put,List.setIfInBounds_toArray,List.set_cons_zero,List.set_cons_succ]
   refine tc (i:=6) 104 #[.pointer (some ⟨mb,0,none⟩),.agg #[.int .i64 kop,.int .i64 kn,.string kst,.slice pk kl ck],.pointer (some ⟨ub,0,none⟩)] (fun v w'=>v=.int .i64 O.1∧Lays mb E1 (some ub) sh O.2.1 w4.drew w'∧UnkO mb (some ub) O.2.2 w') rfl ?_ ?_ ?_ ?_
   ·rfl
   ·go_simp
   ·refine HC.out.mono ?_;rintro e w5 ⟨rfl,D3,H8⟩;exact⟨_,rfl,rfl,D3,H8⟩
   rintro v w5 ⟨rfl,D3,H8⟩;have B5:=aa H8;have A0:=aa ((A1.out.below (Below.refl _ w4).drew).kp D3.kp (B9.out.below (Below.refl _ w4).drew));have A4:=aa ((B6.out.below (Below.refl _ w4).drew).kp D3.kp);obtain⟨M7,I2,I1,F5,m5,G5⟩:=KpG.next (show(E1=kb∨w.heap.size≤E1)∧KpG mb kb (some ub) w w4.drew from⟨D1.out.1,D1.out.2.trans F2.out.kd D1.out.1⟩) D3;have D0:=aa m5;have C4:=aa G5;have Y0:w5.heap[cb]? = w4.heap[cb]?:=D3.kp.bel.block cb M5.out;have I0:=aa Y0;refine⟨⟨A0.out.at' _ (.head _),Y0⟩,?_⟩;clear D3 m5 G5 Y0 H8 HC F2 D1 A1 B6 B9;simp only[Act.put,List.setIfInBounds_toArray,List.set_cons_zero,List.set_cons_succ];refine tc (i:=8) 105 #[.pointer (some ⟨mb,0,none⟩),.int .i64 O.1,.agg #[.int .i64 28,.int .i64 n,.string s,.slice (some ⟨cb,off,none⟩) ks.length c]] (fun v w'=>Lays mb F5 none sh (either (con sh 200) O.1 (T.mk 28 n s ks) O.2.1) w5 w') rfl ?_ ?_ ?_ ?_
   ·rfl
   ·go_simp
   ·refine(zey (sr sh 200) (T.mk 28 n s ks) o a b O.1 O.2.1 _ mb F5 M7 I2 I1 _ w5 A8.out J1.out d1.out (H6.out a (by rw[A8.out]; simp)) (H6.out b (by rw[A8.out]; simp)) (Z4.out w5 C4.out.2.bel) D0.out E6.out.m (by have:=B0.out; have:=B8.out; omega)).mono ?_;rintro e w6 ⟨⟨r6,rfl⟩,C8⟩;exact⟨_,rfl,C8⟩
   rintro v w6 C8;have A3:=aa (A0.out.kp C8.kp (u:=[]) am);have A9:=aa (B5.out.kp C8.kp);have B4:=aa (A4.out.kp C8.kp);obtain⟨L5,L7,L6,L9,m6,J0⟩:=KpG.next C4.out C8.wk;have E0:=aa m6;have C3:=aa J0;have c4:w6.heap[cb]? = w4.heap[cb]?:=(C8.kp.bel.block cb M5.out).trans I0.out;refine⟨⟨A3.out.at' _ (.head _),c4⟩,?_⟩;clear C8 m6 J0 c4 r0 r1 r2 r3 j2 j3 j5 D0 C4 A0 A4 B5;simp only[Act.put,List.setIfInBounds_toArray,List.set_cons_zero,List.set_cons_succ];refine zgg ?_;go_wp2_with fail
   go_meet;refine⟨trivial,⟨either (con sh 200) O.1 (T.mk 28 n s ks) O.2.1,_,_,_,_,_,HE.out,E0.out,C3.out.1,C3.out.2,B4.out,A9.out,(by have:=g9.out.len; have:=B0.out; have:=B8.out; omega),(by have:=E6.out.u; have:=B0.out; have:=B8.out; have h:([]:List Nat).length=0:=rfl; omega),(J3.out.more e0.out.2),(by have h1:=e0.out.1; have h2:=J2.out; have h3:=B0.out.2.2.2.2; have h4:(waitIn j m).ws.length=m.ws.length:=(by simp[Mk.setW,waitIn,Mk.fresh]); omega)⟩⟩
  ·have A8:=aa B3;have B8:=aa (show(T.mk 30 n s ks).size=1+(o.size+(a.size)) by rw[T.size,B3]; simp[sizes]);have B7:=aa (show(T.mk 30 n s ks).ks[0]? = some o by show ks[0]? = some o; rw[B3]; rfl);have H4:=aa (show(T.mk 30 n s ks).ks[1]? = some a by show ks[1]? = some a; rw[B3]; rfl);obtain⟨cb,off,_,_,_,_,_,_,hq,E7, -⟩:=dz (t:=.mk 30 n s ks) F8.out B7.out;subst hq;have M5:=aa E7;clear E7;clear B3;have c0:=ab (A1.out.at' _ (.head _)) 0 _ rfl;have c1:=ab (A1.out.at' _ (.head _)) 1 _ rfl;have c2:=ab (A1.out.at' _ (.head _)) 2 _ rfl;have c3:=ab (A1.out.at' _ (.head _)) 3 _ rfl;simp only at c0 c1 c2 c3;have J1:=aa ha;have Q5:=aa (cf ho);have Z3:=aa (zrq HX.out (.inr (.inl rfl)));have i6:IntKind.i64.wrap (n+1)=n+1:=IntWalk.i64_in _ (by have:=Z3.out; omega);have Z2:=aa (show Fit k ((waitIn j m).setW j fun w=>{ w with day:=n+1 }) from D4.out.setW j _);have R8:=aa (Z2.out.lay (ix 21 0 0 n));have E6:=aa (co sh 200 o _ [] _ (cf ho) R8.out);have J3:=aa (og sh 200 o (((waitIn j m).setW j fun w=>{ w with day:=n+1 }).lay (ix 21 0 0 n)) [] (fun p hp=>by cases hp));have J2:=aa (zbh sh 200 o (((waitIn j m).setW j fun w=>{ w with day:=n+1 }).lay (ix 21 0 0 n)) []);have d5:=aa (bm sh 200 o (((waitIn j m).setW j fun w=>{ w with day:=n+1 }).lay (ix 21 0 0 n)) []);obtain⟨O,hO⟩:∃ O,Hid (obs sh 200 o (((waitIn j m).setW j fun w=>{ w with day:=n+1 }).lay (ix 21 0 0 n)) []=O):=⟨_,aa rfl⟩
   rw[hO.out] at E6 J3 J2 d5;have R7:=aa (E6.out.m.lay (ix 19 0 O.1 0));have I0:=aa (cx sh 200 a _ _ ha R7.out);have F7:=aa (kq sh 200 a (O.2.1.lay (ix 19 0 O.1 0)));obtain⟨C,hC⟩:∃ C,Hid (con sh 200 a (O.2.1.lay (ix 19 0 O.1 0))=C):=⟨_,aa rfl⟩
   rw[hC.out] at I0 F7;have HE:=aa (show wait sh j (T.mk 30 n s ks) m=again j (C.here (waitIn j m).ins.length) (O.2.2++[O.2.1.ins.length]) by
    have h:=ii (sh:=sh) (j:=j) (t:=T.mk 30 n s ks) (m:=m) rfl;rw[show(T.mk 30 n s ks).kid 0=o by rw[A8.out]; rfl,show(T.mk 30 n s ks).kid 1=a by rw[A8.out]; rfl] at h;change wait sh j (T.mk 30 n s ks) m=again j ((con sh 200 a ((obs sh 200 o (((waitIn j m).setW j fun w=>{ w with day:=n+1 }).lay (ix 21 0 0 n)) []).2.1.lay (ix 19 0 (obs sh 200 o (((waitIn j m).setW j fun w=>{ w with day:=n+1 }).lay (ix 21 0 0 n)) []).1 0))).here (waitIn j m).ins.length) ((obs sh 200 o (((waitIn j m).setW j fun w=>{ w with day:=n+1 }).lay (ix 21 0 0 n)) []).2.2++[(obs sh 200 o (((waitIn j m).setW j fun w=>{ w with day:=n+1 }).lay (ix 21 0 0 n)) []).2.1.ins.length]) at h
    rw[hO.out,hC.out] at h;exact h)
   have d6:=aa (show C.ins.length≤700000 by have:=I0.out.len; have:=B0.out; have:=B8.out; omega);clear ha ho;have F9:(waitIn j m).ws[j]? = some { x with entry:=m.ins.length }:=zlz _ Y4.out;obtain⟨g',cw',J6,L1, -,G1,G0⟩:=F2.out.wcell F9;obtain rfl:g=g':=Option.some.inj L1;have q1:w4.cell? ⟨g,j * 5+1,none⟩=some (.int .i64 x.day):=G1 1 _ rfl;have z1:=G0 (j * 5+1);have A2:=F2.out.setF (j:=j) (g:=g) (f:=1) (u:=.int .i64 (n+1)) (fn:=fun w=>{ w with day:=(n+1) }) (List.getElem?_eq_some_iff.1 F9).1 L1 (by decide) (fun _=>rfl);have D0:=aa A2.1;have C4:=aa (And.intro D1.out.1 (D1.out.2.trans A2.2.wk D1.out.1));have A0:=aa (A1.out.kp A2.2 (u:=[]) am);have A4:=aa (B6.out.kp A2.2);have B5:=aa (B9.out.kp A2.2);clear A2 G1 G0 J6 L1 F9;go_upto_region 13 with(fail)
   clear q1 z1 F2 D1 A1 B6 B9 c0 c1 c2 c3;generalize World.setCell _ _ _=w5 at *;have c0:=ab (A0.out.at' _ (.head _)) 0 _ rfl;have c1:=ab (A0.out.at' _ (.head _)) 1 _ rfl;have c2:=ab (A0.out.at' _ (.head _)) 2 _ rfl;have c3:=ab (A0.out.at' _ (.head _)) 3 _ rfl;simp only at c0 c1 c2 c3;have Z1:=aa (gh mb E1 sh ((waitIn j m).setW j fun w=>{ w with day:=n+1 }) (.slice (some ⟨g,0,none⟩) m.ws.length cw) (.slice pi m.ins.length ci) vj (ix 21 0 0 n) w5 D0.out (by have:=B0.out; show m.ins.length≤_; omega));unfold ix txt0 at Z1;go_wp2_with fail
   refine Z1.out.mono ?_;rintro e w6 ⟨f6,rfl,⟨a4,a3,rfl,e9⟩,C8⟩;have C2:=aa (show JumpFn mb w6 _ _ from⟨a4,a3,rfl,e9⟩);clear Z1;have A3:=aa (A0.out.kp C8.kp (u:=[]) am);have A9:=aa (B5.out.kp C8.kp);have B4:=aa (A4.out.kp C8.kp);obtain⟨L5,L7,L6,L9,m6,J0⟩:=KpG.next C4.out C8.wk;have E0:=aa m6;have C3:=aa J0;clear C8 m6 J0 D0 C4 A0 A4 B5 c0 c1 c2 c3;have c0:=ab (A3.out.at' _ (.head _)) 0 _ rfl;have c1:=ab (A3.out.at' _ (.head _)) 1 _ rfl;have c2:=ab (A3.out.at' _ (.head _)) 2 _ rfl;have c3:=ab (A3.out.at' _ (.head _)) 3 _ rfl;simp only at c0 c1 c2 c3;obtain⟨kop,kn,kst,pk,kl,ck,D5,r0,r1,r2,r3⟩:=ft (t:=.mk 30 n s ks) (kids_kept F8.out C3.out.2.bel) (i:=0) B7.out;simp only[Nat.zero_mul,Nat.add_zero,Nat.one_mul,Nat.reduceMul] at r0 r1 r2 r3;have j2:(0:Int)<(ks.length:Int):=by have:=congrArg List.length A8.out; simp at this; omega
   have j5:ks≠[]:=by rw[A8.out]; simp
   have j3:0<ks.length:=List.length_pos_iff.2 j5;have HC:=aa (ye sh 200 o (((waitIn j m).setW j fun w=>{ w with day:=n+1 }).lay (ix 21 0 0 n)) [] _ mb L9 (some ub) L5 L7 L6 _ w6 Q5.out (H6.out o (by rw[A8.out]; simp)) D5 E0.out A9.out (fun e=>by cases e) R8.out (by have:=B0.out; have:=B8.out; omega) (by have:=B0.out; have:=B8.out; show 0+8 * _≤_; omega));rw[show my (some ub)=Value.pointer (some ⟨ub,0,none⟩) from rfl,hO.out] at HC;clear D5;go_wp2_with fail
   refine HC.out.mono ?_;rintro e w7 ⟨rfl,D7,a9⟩;have C0:=aa a9;clear HC a9;have A7:=aa (A3.out.kp D7.kp A9.out);have C2:=aa (C2.out.kp D7.kp A9.out.box);have C1:=aa (B4.out.kp D7.kp);obtain⟨T2,T4,T3,L8,m7,I9⟩:=KpG.next C3.out D7;have F1:=aa m7;have E5:=aa I9;clear D7 m7 I9 E0 C3 A3 B4 A9 c0 c1 c2 c3 r0 r1 r2 r3 j2 j3 j5;have c0:=ab (A7.out.at' _ (.head _)) 0 _ rfl;have c1:=ab (A7.out.at' _ (.head _)) 1 _ rfl;have c2:=ab (A7.out.at' _ (.head _)) 2 _ rfl;have c3:=ab (A7.out.at' _ (.head _)) 3 _ rfl;simp only at c0 c1 c2 c3;have Y7:=aa (show O.2.1.ins.length≤700000 by have:=E6.out.m.len; have:=B0.out; have:=B8.out; omega);obtain⟨⟨vu,fs,u1,u2,u3⟩,u4⟩:=C0.out ub rfl;have HU:=aa (And.intro u1 (And.intro u2 (And.intro u3 u4)));clear u1 u2 u3 u4;have E2:w7.drew.heap[ub]? = some (.cells #[vu] 141 (0,0))∧w7.drew.heap[B+1]? = some (.cells #[.int .i64 30,.int .i64 n,.string s,.slice (some ⟨cb,off,none⟩) ks.length c] 24 (0,0)):=⟨HU.out.1,A7.out.at' _ (.head _)⟩
   have D4:=aa E2;have Y5:=aa (show(O.2.2).length≤700000 by have:=E6.out.u; have:=B0.out; have:=B8.out; have h:([]:List Nat).length=0:=rfl; omega);go_upto_region 15 with(fail)
   clear c0 c1 c2 c3;refine ed (fun W=>W.heap[ub]? = some (.cells #[vu] 141 (0,0))∧W.heap[B+1]? = some (.cells #[.int .i64 30,.int .i64 n,.string s,.slice (some ⟨cb,off,none⟩) ks.length c] 24 (0,0))) 7 [false,false,false,true,true,true,true,true] (by kernel_rfl) (by kernel_rfl) (by kernel_rfl) E2 ?_;clear E2;iterate 3
    apply dn
    ·rfl
    ·intro W hW;have p0:=ab hW.1 0 _ rfl;have p1:=ab hW.2 1 _ rfl;first|(go_simp; done)|(go_simp; with_reducible rfl)
    simp only[Act.put,List.setIfInBounds_toArray,List.set_cons_zero,List.set_cons_succ]
   have P1:=F1.out.drew;refine dl (v:=.agg #[.int .i64 19,.int .i64 0,.int .i64 O.1,.int .i64 0,.int .i64 0,.string ⟨#[]⟩,.int .i64 0]) (w':=w7.drew) ?_ ?_ ?_ ?_
   ·rfl
   ·first|(go_simp; done)|(go_simp; with_reducible rfl)
   ·exact .inr D4.out
   simp only[Act.put,List.setIfInBounds_toArray,List.set_cons_zero,List.set_cons_succ];refine jk 106 #[.pointer (some ⟨mb,0,none⟩),.agg #[.int .i64 19,.int .i64 0,.int .i64 O.1,.int .i64 0,.int .i64 0,.string ⟨#[]⟩,.int .i64 0]] (fun f w'=>JumpFn mb w' f (O.2.1).ins.length∧Lays mb L8 none sh ((O.2.1).lay (ix 19 0 O.1 0)) w7.drew w') ?_ ?_ ?_ ?_
   ·rfl
   ·go_simp
   ·refine(gh mb L8 sh (O.2.1) T2 T4 T3 (ix 19 0 O.1 0) w7.drew P1 (by have:=Y7.out; omega)).mono ?_;rintro e w' ⟨f,h1,h2,h3⟩;exact⟨f,h1,h2,h3⟩
   rintro f wA ⟨⟨C6,C5,rfl,X9⟩,C7⟩;have P8:JumpFn mb wA (.func (.func 150) #[] #[.pointer (some ⟨C6,0,none⟩),.pointer (some ⟨C5,0,none⟩)]) (O.2.1).ins.length:=⟨C6,C5,rfl,X9⟩
   have Y9:=aa C7;have L3:=C7.box (k:=ub) (by have:=HU.out.2.2.2; omega) (by decide) (by decide) (by decide) D4.out.1;have L2:=C7.box (k:=B+1) (by have:=(A7.out.ok _ (.head _)).1; simp only at this; omega) (by decide) (by decide) (by decide) D4.out.2;have D6:wA.ownsRow (mb+1) 1 1 vu (O.2.2).length fs:=by
    refine⟨HU.out.2.1.1,?_⟩;rcases HU.out.2.1.2 with h5|⟨g,cap,cur,e1,e2,e3,e4⟩
    ·exact .inl h5
    ·exact .inr ⟨g,cap,cur,e1,e2,C7.box (k:=g) (by omega) (by decide) (by decide) (by decide) e3,e4⟩
   have P9:∀(i:Nat) p,(O.2.2)[i]? = some p→∃ f,fs[i]? = some f∧JumpFn mb wA f p:=fun i p hp=>by
    obtain⟨f',h1,h2⟩:=HU.out.2.2.1 i p hp;exact⟨f',h1,(h2.below (Below.refl _ w7).drew).kp C7.kp (fun u e=>by cases e)⟩
   have H1:=aa ((C1.out.below (Below.refl _ w7).drew).kp C7.kp);have H7:=aa ((A7.out.below (Below.refl _ w7).drew).kp C7.kp (u:=[]) am);have C2:=aa ((C2.out.below (Below.refl _ w7).drew).kp C7.kp (fun u e=>by cases e));obtain⟨vwA,viA,vjA,kbA,mA,P6⟩:=KpG.next (show(L8=kb∨w.heap.size≤L8)∧KpG mb kb (some ub) w w7.drew from⟨E5.out.1,E5.out.2.trans F1.out.kd E5.out.1⟩) C7.wk;have L4:=aa mA;have I8:=aa P6;refine⟨.inr ⟨L3,L2⟩,?_⟩;clear mA P6 C7 P1 Y9 HU D4 F1 E5 A7 C1 C0;simp only[Act.put,List.setIfInBounds_toArray,List.set_cons_zero,List.set_cons_succ];have C9:=(Below.refl wA.heap.size wA).alloc (Nat.le_refl _) (.cells #[(.func (.func 150) #[] #[.pointer (some ⟨C6,0,none⟩),.pointer (some ⟨C5,0,none⟩)])] 1);have J7:=heap_alloc_new wA (.cells #[(.func (.func 150) #[] #[.pointer (some ⟨C6,0,none⟩),.pointer (some ⟨C5,0,none⟩)])] 1);have G9:=ag C9 L3;have G8:=ag C9 L2;refine dl (v:=.slice (some ⟨wA.heap.size,0,none⟩) 1 1) (w':=wA.alloc (.cells #[(.func (.func 150) #[] #[.pointer (some ⟨C6,0,none⟩),.pointer (some ⟨C5,0,none⟩)])] 1)) ?_ ?_ ?_ ?_
   ·rfl
   ·first|(go_simp; done)|(go_simp; with_reducible rfl)
   ·exact .inr ⟨G9,G8⟩
   simp only[Act.put,List.setIfInBounds_toArray,List.set_cons_zero,List.set_cons_succ];have H9:∀(i:Nat) p,(O.2.2)[i]? = some p→∃ f',fs[i]? = some f'∧JumpFn mb (wA.alloc (.cells #[(.func (.func 150) #[] #[.pointer (some ⟨C6,0,none⟩),.pointer (some ⟨C5,0,none⟩)])] 1)) f' p:=fun i p hp=>by
    obtain⟨f',h1,h2⟩:=P9 i p hp;exact⟨f',h1,h2.below C9⟩
   have G7:=P8.below C9;have E4:=aa (L4.out.below C9);have D2:=aa (show(kbA=kb∨w.heap.size≤kbA)∧KpG mb kb (some ub) w _ from⟨I8.out.1,I8.out.2.trans (KpG.of C9 (Nat.le_of_lt L4.out.lt)) I8.out.1⟩);have A4:=aa (H1.out.below C9);have A0:=aa (H7.out.below C9);have C2:=aa (C2.out.below C9);have X4:mb<(wA.alloc (.cells #[(.func (.func 150) #[] #[.pointer (some ⟨C6,0,none⟩),.pointer (some ⟨C5,0,none⟩)])] 1)).heap.size:=E4.out.lt;have A5:=World.ownsRow.alloc D6 (.cells #[(.func (.func 150) #[] #[.pointer (some ⟨C6,0,none⟩),.pointer (some ⟨C5,0,none⟩)])] 1);have E3:=aa (show mb<ub by have:=Q3.out; have:=d3.out; omega);obtain⟨wAs,G2⟩:∃ k,wA.heap.size=k:=⟨_,rfl⟩
   rw[G2] at J7 ⊢;clear C9 L3 L2 P9 D6 G2 L4 I8 H1 H7 P8;generalize World.alloc wA _=wB at *;obtain⟨ti,T8,T7,T6,T5⟩:=info_split zcq;have f8:=Y5.out;refine ky _ _ 141 rfl rfl (mb+1) 1 ti _ 1 8 Tryz.underlying141 T8 T7 T6 T5 rfl (by decide) vu _ _ rfl A5 ⟨wAs,0,none⟩ 1 1 [(.func (.func 150) #[] #[.pointer (some ⟨C6,0,none⟩),.pointer (some ⟨C5,0,none⟩)])] rfl rfl
    (fun j y hj=>?_) (fun y hy=>?_) (by decide) (by unfold maxLen; omega) (by omega) (by omega) (fun gq cap wC G3 I5 Y2 X5=>?_)
   ·rw[add_gen,Nat.zero_add];unfold World.cell?;simp only[J7];simpa using hj
   ·simp only[List.mem_cons,List.not_mem_nil,or_false] at hy;subst hy;rfl
   have A6:=UnkAt.push (W:=wB) E3.out G9 A5 H9 G7 G3 I5;have F6:=tj (v:=.slice (some ⟨gq,0,none⟩) ((O.2.2).length+1) cap) E4.out E3.out G9 A6.2 A5 I5;have M3:=aa F6.1;have J4:=aa (show(kbA=kb∨w.heap.size≤kbA)∧KpG mb kb (some ub) w _ from⟨D2.out.1,D2.out.2.trans F6.2 D2.out.1⟩);have H3:=aa (A4.out.kp F6.2);have F0:UnkO mb (some ub) (O.2.2) wB:=fun b e=>by cases e; exact⟨⟨vu,fs,G9,A5,H9⟩,E3.out⟩
   have F4:=aa (A0.out.kp F6.2 F0);have C2:=aa (C2.out.kp F6.2 F0.box);have H0:=aa (show UnkO mb (some ub) ((O.2.2)++[(O.2.1).ins.length]) _ from fun b e=>by cases e; exact A6.1);have D9:wC.heap[ub]? = some (.cells #[vu] 141 (0,0))∧wC.heap[B+1]? = some (.cells #[.int .i64 30,.int .i64 n,.string s,.slice (some ⟨cb,off,none⟩) ks.length c] 24 (0,0)):=⟨A6.2,by
    have X2:vu.ownBlock≠some (B+1):=fun e=>by
     obtain⟨-,cur,e2⟩:=ei A5 e;rw[G8] at e2;simp at e2
    exact(I5.block (B+1) (af G8) (fun e=>X2 e.symm)).trans G8⟩
   have f0:=frozen_of (o:=0) A6.2;have k0:=ab A6.2 0 _ rfl;refine⟨.inr D9,?_⟩;simp only[Act.put,List.setIfInBounds_toArray,List.set_cons_zero,List.set_cons_succ];refine jh (w':=wC.setCell ⟨ub,0,none⟩ (.slice (some ⟨gq,0,none⟩) ((O.2.2).length+1) cap)) ?_ ?_ ?_ ?_
   ·rfl
   ·go_simp
   ·exact .inl (Nat.le_refl _)
   refine gy ?_;clear A6 F6 F0 G3 I5 Y2 X5 A5 H9 G7 G9 G8 E4 D2 A4 A0 f0 k0 D9 J7;generalize World.setCell _ _ _=w8 at *;obtain⟨Z7,O0⟩:∃ v,v=vwA:=⟨_,rfl⟩
   obtain⟨Z9,O4⟩:∃ v,v=viA:=⟨_,rfl⟩
   obtain⟨Z8,O2⟩:∃ v,v=vjA:=⟨_,rfl⟩
   obtain⟨a2,J8⟩:∃ v,v=kbA:=⟨_,rfl⟩
   rw[←O0,←O4,←O2,←J8] at M3;rw[←J8] at J4;clear O0 O4 O2 J8;have c0:=ab (F4.out.at' _ (.head _)) 0 _ rfl;have c1:=ab (F4.out.at' _ (.head _)) 1 _ rfl;have c2:=ab (F4.out.at' _ (.head _)) 2 _ rfl;have c3:=ab (F4.out.at' _ (.head _)) 3 _ rfl;simp only at c0 c1 c2 c3;obtain⟨kop,kn,kst,pk,kl,ck,D5,r0,r1,r2,r3⟩:=ft (t:=.mk 30 n s ks) (kids_kept F8.out J4.out.2.bel) (i:=1) H4.out;simp only[Nat.zero_mul,Nat.add_zero,Nat.one_mul,Nat.reduceMul] at r0 r1 r2 r3;have j2:(1:Int)<(ks.length:Int):=by have:=congrArg List.length A8.out; simp at this; omega
   have HC:=aa (sr sh 200 a (O.2.1.lay (ix 19 0 O.1 0)) _ mb a2 Z7 Z9 Z8 _ w8 J1.out (H6.out a (by rw[A8.out]; simp)) D5 M3.out R7.out (by have:=B0.out; have:=B8.out; omega));rw[hC.out] at HC;clear D5;go_wp2_with fail
   refine HC.out.mono ?_;rintro e w9 ⟨⟨r9,rfl⟩,G4⟩;clear HC;have F3:=aa (F4.out.kp G4.kp (u:=[]) am);have Q1:=aa (H0.out.kp G4.kp);have C2:=aa (C2.out.kp G4.kp (fun u e=>by cases e));have H2:=aa (H3.out.kp G4.kp);obtain⟨M6,N1,M9,J5,m9,L0⟩:=KpG.next J4.out G4.wk;have M2:=aa m9;have R4:=aa L0;clear G4 m9 L0 M3 J4 F4 H3 H0 c0 c1 c2 c3 r0 r1 r2 r3 j2;have c0:=ab (F3.out.at' _ (.head _)) 0 _ rfl;have c1:=ab (F3.out.at' _ (.head _)) 1 _ rfl;have c2:=ab (F3.out.at' _ (.head _)) 2 _ rfl;have c3:=ab (F3.out.at' _ (.head _)) 3 _ rfl;simp only at c0 c1 c2 c3;obtain⟨x1,x2,a5, -, -,N6,N5⟩:=C2.out;simp only[Value.func.injEq,Array.mk.injEq,List.cons.injEq,Value.pointer.injEq,Option.some.injEq,Addr.mk.injEq,and_true,true_and] at a5;obtain⟨rfl,rfl⟩:=a5;have R6:=aa (ju mb J5 sh C M6 N1 M9 ((waitIn j m).ins.length) a4 a3 w9 M2.out (by have:=d6.out; omega) (by have h1:=F7.out.2; have h2:=d5.out; rw[ah] at h1 h2; have h3:(((waitIn j m).setW j fun w=>{ w with day:=n+1 })).ins.length=(waitIn j m).ins.length:=rfl; omega) N6 N5);clear N6 N5;go_wp2_with fail
   refine R6.out.mono ?_;rintro e Z6 ⟨⟨i4,rfl⟩,D8⟩;clear R6;have E9:=aa (F3.out.kp D8.kp (u:=[]) am);have Q2:=aa (Q1.out.kp D8.kp);have Q8:=aa (H2.out.kp D8.kp);obtain⟨M8,N2,N0,N4,N3,G6⟩:=KpG.next R4.out D8.wk;have I6:=aa N3;have H5:=aa G6;clear D8 N3 G6 M2 R4 F3 H2 Q1 c0 c1 c2 c3;have c0:=ab (E9.out.at' _ (.head _)) 0 _ rfl;have c1:=ab (E9.out.at' _ (.head _)) 1 _ rfl;have c2:=ab (E9.out.at' _ (.head _)) 2 _ rfl;have c3:=ab (E9.out.at' _ (.head _)) 3 _ rfl;simp only at c0 c1 c2 c3;go_wp2_with fail
   go_meet;refine⟨trivial,⟨C.here (waitIn j m).ins.length,_,_,_,_,_,HE.out,I6.out,H5.out.1,H5.out.2,Q8.out,Q2.out,(by rw[ak]; exact d6.out),(by have:=E6.out.u; have:=B0.out; have:=B8.out; have h:([]:List Nat).length=0:=rfl; rw[List.length_append,List.length_singleton]; omega),((J3.out.snoc (ix 19 0 O.1 0)).more (by rw[ak]; exact F7.out.2)),(by have h1:=F7.out.1; have h2:=J2.out; have h3:=B0.out.2.2.2.2; have h4:(((waitIn j m).setW j fun w=>{ w with day:=n+1 }).lay (ix 21 0 0 n)).ws.length=m.ws.length:=(by simp[Mk.lay,Mk.setW,waitIn,Mk.fresh]); have h5:(O.2.1.lay (ix 19 0 O.1 0)).ws.length=O.2.1.ws.length:=rfl; have h6:(C.here (waitIn j m).ins.length).ws.length=C.ws.length:=rfl; omega)⟩⟩
 case rest=>
  obtain⟨-,R0⟩:=hcut;obtain⟨M,U,M7,I2,I1,F5,hR,c9,G5,P5,P0,O7,D3,H8,a7,H9⟩:=R0.out;have HR:=aa hR;have D0:=aa c9;have C4:=aa (And.intro G5 P5);have A4:=aa P0;have B5:=aa O7;have I7:=aa (And.intro D3 (And.intro H8 (And.intro a7 H9)));clear R0 hR c9 G5 P5 P0 O7 D3 H8 a7 H9 F2 D1 A1 B6 B9 D4 R3 Y4 F8 H6 HI Z4 HF d9 b1 c0;obtain⟨x5,F9⟩:∃ x5,M.ws[j]? = some x5:=⟨_,List.getElem?_eq_getElem I7.out.2.2.2⟩
  obtain⟨g5,Y3,X1,b9,g2,N9,N7⟩:=D0.out.wcell F9;subst X1;have S5:=aa (And.intro F9 b9);have j1:(0:Int)≤(j:Int):=by omega
  have j2:(j:Int)<(M.ws.length:Int):=by have:=I7.out; omega
  have HQ:=aa (show wc.drew.cell? ⟨g5,j * 5+1,none⟩=some (.int .i64 x5.day) from N9 1 _ rfl);have HZ:=aa (show wc.drew.frozen? ⟨g5,j * 5+1,none⟩=false from N7 (j * 5+1));have E2:wc.drew.heap[mb]? = some (.cells #[.int .i64 M.regs,.slice (some ⟨g5,0,none⟩) M.ws.length Y3,I2,.bool sh,I1,.int .i64 M.next,.map (some F5),.bool M.over] 66 (0,0))∧wc.drew.heap[B]? = some (.cells #[.int .i64 j,.int .i64 op,.int .i64 n,.string s,.slice q ks.length c] 104 (0,0))∧wc.drew.cell? ⟨g5,j * 5+1,none⟩=some (.int .i64 x5.day):=⟨D0.out.box,A4.out.2.1,HQ.out⟩
  clear N9 N7 F9 b9;obtain⟨T9,P2⟩:∃ T9,Hid (M.ws.length=T9):=⟨_,aa rfl⟩
  rw[P2.out] at E2 j2;go_upto_region 25 with(fail)
  refine ed (fun W=>W.heap[mb]? = some (.cells #[.int .i64 M.regs,.slice (some ⟨g5,0,none⟩) T9 Y3,I2,.bool sh,I1,.int .i64 M.next,.map (some F5),.bool M.over] 66 (0,0))∧W.heap[B]? = some (.cells #[.int .i64 j,.int .i64 op,.int .i64 n,.string s,.slice q ks.length c] 104 (0,0))∧W.cell? ⟨g5,j * 5+1,none⟩=some (.int .i64 x5.day)) 11 [false,false,false,false,false,false,false,false,false,false,false] (by kernel_rfl) (by kernel_rfl) (by kernel_rfl) E2 ?_;iterate 11
   apply dn
   ·rfl
   ·intro W hW;have q1:=ab hW.1 1 _ rfl;have p0:=ab hW.2.1 0 _ rfl;have s1:=hW.2.2;first|(go_simp; done)|(go_simp; with_reducible rfl)
   simp only[Act.put,List.setIfInBounds_toArray,List.set_cons_zero,List.set_cons_succ]
  refine gy ?_;have E0:=aa D0.out.drew;have B4:=aa (A4.out.below (Below.refl _ wc).drew);have A9:=aa (B5.out.below (Below.refl _ wc).drew);have C3:=aa (show(F5=kb∨w.heap.size≤F5)∧KpG mb kb (some ub) w wc.drew from⟨C4.out.1,C4.out.2.trans D0.out.kd C4.out.1⟩);have m1:=ab E0.out.box 1 _ rfl;have o0:=ab B4.out.2.1 0 _ rfl;rw[P2.out] at m1;clear D0 A4 B5 C4 E2;generalize wc.drew=w6 at *;go_upto_if 137 with(fail)
  go_cut [137] (fun bb wx=>True∧Hid (MkAt mb sh (M.setW j fun w=>{ w with day:=cv w.day }) (.slice (some ⟨g5,0,none⟩) M.ws.length Y3) I2 I1 F5 wx∧KpG mb kb (some ub) w wx∧Own1 mb 4 B #[.int .i64 j,.int .i64 op,.int .i64 n,.string s,.slice q ks.length c] 104 wx∧UnkO mb (some ub) U wx));case first=>
   by_cases hd:73048<x5.day
   ·have gd:decide (73048<x5.day)=true:=decide_eq_true hd;have HD:=aa (show cv x5.day=0 from if_pos hd);have A2:=E0.out.drew.setF (j:=j) (g:=g5) (f:=1) (u:=.int .i64 0) (fn:=fun w=>{ w with day:=0 }) I7.out.2.2.2 S5.out.2 (by decide) (fun _=>rfl);have F1:=aa A2.1;have E5:=aa ((C3.out.2.trans E0.out.kd C3.out.1).trans A2.2.wk C3.out.1);have C1:=aa ((B4.out.below (Below.refl _ w6).drew).kp A2.2);have C0:=aa ((A9.out.below (Below.refl _ w6).drew).kp A2.2);have q1:w6.drew.cell? ⟨g5,j * 5+1,none⟩=some (.int .i64 x5.day):=HQ.out;have z1:w6.drew.frozen? ⟨g5,j * 5+1,none⟩=false:=HZ.out;clear A2;go_upto_region 26 with(fail)
    go_still_tail 9,(by kernel_rfl)
    change wpList _ _ _ _ _ w6.drew
    clear m1 o0;generalize w6.drew=wd at *;go_wp2_with fail
    go_meet;refine⟨trivial,?_,E5.out,C1.out,C0.out⟩;rw[zwy (f:=fun w=>{ w with day:=cv w.day }) (f':=fun w=>{ w with day:=0 }) S5.out.1 (by show({ x5 with day:=cv x5.day }:Gen.Wt) = { x5 with day:=0 }; rw[HD.out])];exact F1.out
   ·have gd:decide (73048<x5.day)=false:=decide_eq_false hd;have HD:=aa (show cv x5.day=x5.day from if_neg hd);go_wp2_with fail
    go_meet;refine⟨trivial,?_,C3.out.2,B4.out,A9.out⟩;rw[zpd (f:=fun w=>{ w with day:=cv w.day }) S5.out.1 (by show({ x5 with day:=cv x5.day }:Gen.Wt)=x5; rw[HD.out])];exact E0.out
  case rest=>
   obtain⟨-,HS⟩:=hcut;have F1:=aa HS.out.1;have E5:=aa (And.intro C3.out.1 HS.out.2.1);have C1:=aa HS.out.2.2.1;have C0:=aa HS.out.2.2.2;obtain⟨N,hN⟩:∃ N,Hid ((M.setW j fun w=>{ w with day:=cv w.day })=N):=⟨_,aa rfl⟩
   have c8:N.ins.length=M.ins.length:=by rw[←hN.out]; rfl
   rw[hN.out] at F1;have S9:=aa c8;clear HS E0 C3 B4 A9 m1 o0 j1 j2 S5 HQ HZ c8;have E8:=aa (ud mb F5 sh N _ I2 I1 wc F1.out (by have:=I7.out; have:=S9.out; omega));go_wp2_with fail
   refine E8.out.mono ?_;rintro e w8 ⟨⟨r8,rfl⟩,S4⟩;have H0:=aa (C0.out.kp S4.kp);have H3:=aa (C1.out.kp S4.kp);obtain⟨Z7,Z9,Z8,a2,m8,b5⟩:=KpG.next E5.out S4.wk;have M3:=aa m8;have J4:=aa b5;clear S4 m8 b5 E8 F1 E5 C1 C0;obtain⟨⟨vu,fs,u1,u2,u3⟩,u4⟩:=H0.out ub rfl;obtain⟨pu,cu,S3⟩:=dt u2;subst S3;have HU:=aa u1;have d2:=aa (show UnkV mb (.slice pu U.length cu) fs U w8 from⟨u2,u3⟩);clear u1 u2 u3 u4;have u0:=ab HU.out 0 _ rfl;clear H0;go_upto_region 29 with(fail)
   clear u0;obtain⟨wo,X0⟩:∃ wo,wo=w8:=⟨_,rfl⟩
   have d4:=aa (show ∃ vw' vi' vj' kb',MkAt mb sh (hereAll N.fin (U.take 0)) vw' vi' vj' kb' wo∧(kb'=kb∨w.heap.size≤kb')∧KpG mb kb (some ub) w wo∧Own1 mb 4 B #[.int .i64 j,.int .i64 op,.int .i64 n,.string s,.slice q ks.length c] 104 wo∧UnkV mb (.slice pu U.length cu) fs U wo by rw[X0]; exact⟨_,_,_,_,M3.out,J4.out.1,J4.out.2,H3.out,d2.out⟩);rw[←X0];clear X0 M3 J4 H3 d2 HU;go_loopw [151] (fun iv wr=>∃ i:Nat,iv=.int .i64 (i:Int)∧i≤U.length∧Hid (∃ vw' vi' vj' kb',MkAt mb sh (hereAll N.fin (U.take i)) vw' vi' vj' kb' wr∧(kb'=kb∨w.heap.size≤kb')∧KpG mb kb (some ub) w wr∧Own1 mb 4 B #[.int .i64 j,.int .i64 op,.int .i64 n,.string s,.slice q ks.length c] 104 wr∧UnkV mb (.slice pu U.length cu) fs U wr)) (fun iv _=>U.length - (intOf iv).toNat)
   case atStart=>exact⟨0,rfl,Nat.zero_le _,d4⟩
   case round=>
    obtain⟨i,rfl,hi,HJ⟩:=hrel;by_cases M1:i<U.length
    ·obtain⟨p,hp⟩:∃ p,U[i]? = some p:=⟨_,List.getElem?_eq_getElem M1⟩
     obtain⟨vwi,vii,vji,kbi,b0,b4,P4,O8,I3⟩:=HJ.out;obtain⟨f,hf,C6,C5,rfl,j0,i9,N6,N5⟩:=I3.2 i p hp;obtain⟨gu,cu',S3, -, -, -,c6⟩:=zbe I3.1 (by omega);simp only[Value.slice.injEq] at S3;obtain⟨rfl, -,rfl⟩:=S3;have c0:wr.cell? ⟨gu,i,none⟩=some _:=c6 i _ hf;have j1:(0:Int)≤(i:Int):=by omega
     have j2:(i:Int)<(U.length:Int):=by omega
     have i8:IntKind.i64.wrap ((i:Int)+1)=(i:Int)+1:=IntWalk.i64_in _ (by have:=I7.out; omega);have R6:=aa (ju mb kbi sh (hereAll N.fin (U.take i)) vwi vii vji p C6 C5 wr b0 (by rw[dm]; unfold Mk.fin; rw[ah]; have:=I7.out; have:=S9.out; omega) (by rw[dm]; unfold Mk.fin; rw[ah]; have h1:=I7.out.2.2.1 p (List.mem_of_getElem? hp); have:=S9.out; omega) N6 N5);have HI:=aa (And.intro M1 hp);have T0:=aa (And.intro (show(kbi=kb∨w.heap.size≤kbi)∧KpG mb kb (some ub) w wr from⟨b4,P4⟩) (And.intro O8 I3));clear c6 b0 b4 P4 O8 I3 N6 N5 hp hf HJ;go_wp2_with fail
     refine R6.out.mono ?_;rintro e w9 ⟨⟨r9,rfl⟩,G4⟩;have g7:=aa (show ∃ vw' vi' vj' kb',MkAt mb sh (hereAll N.fin (U.take (i+1))) vw' vi' vj' kb' w9∧(kb'=kb∨w.heap.size≤kb')∧KpG mb kb (some ub) w w9∧Own1 mb 4 B #[.int .i64 j,.int .i64 op,.int .i64 n,.string s,.slice q ks.length c] 104 w9∧UnkV mb (.slice (some ⟨gu,0,none⟩) U.length cu) fs U w9 by
      obtain⟨M6,N1,M9,J5,m9,L0,I4⟩:=KpG.next T0.out.1 G4.wk;rw[zgn U i p HI.out.2,zjq];exact⟨M6,N1,M9,J5,m9,L0,I4,T0.out.2.1.kp G4.kp,T0.out.2.2.kp G4.kp⟩)
     clear G4 R6 c0 T0;go_wp2_with fail
     go_roundw;case rel=>exact⟨i+1,by go_num,by have:=HI.out.1; omega,g7⟩
     case measure=>have:=HI.out.1; simp only[intOf]; omega
    ·obtain rfl:i=U.length:=by omega
     have j3:decide (U.length<U.length)=false:=by simp
     obtain⟨M6,N1,M9,J5,X3,L0,I4,O9, -⟩:=HJ.out;rw[List.take_length] at X3;have M2:=aa X3;have R4:=aa (show(J5=kb∨w.heap.size≤J5)∧KpG mb kb (some ub) w wr from⟨L0,I4⟩);have H2:=aa O9;obtain⟨Z,hZ⟩:∃ Z,Hid (hereAll N.fin U=Z):=⟨_,aa rfl⟩
     have c7:Z.ins.length=M.ins.length+1:=by rw[←hZ.out,dm]; unfold Mk.fin; rw[ah,S9.out]
     rw[hZ.out] at M2;have d0:=aa c7;have o0:=ab H2.out.2.1 0 _ rfl;have i5:IntKind.i64.wrap (j:Int)=(j:Int):=IntWalk.i64_in _ (by have:=B0.out; omega);have E8:=aa (ir mb J5 sh Z M6 N1 M9 (ix 28 0 0 j) wr M2.out (by have:=d0.out; have:=I7.out; omega));unfold ix txt0 at E8;clear M1 hi X3 L0 I4 O9 HJ d4 c7;go_wp2_with fail
     refine E8.out.mono ?_;rintro e Z6 ⟨rfl,D8⟩;obtain⟨M8,N2,N0,N4,N3,G6⟩:=KpG.next R4.out D8.wk;have I6:=aa N3;have H5:=aa G6;clear D8 N3 G6 E8 M2 R4 H2 o0;have E8:=aa (ud mb N4 sh (Z.lay (ix 28 0 0 j)) M8 N2 N0 Z6 I6.out (by rw[ah]; have:=d0.out; have:=I7.out; omega));go_wp2_with fail
     refine E8.out.mono ?_;rintro e i2 ⟨⟨i3,rfl⟩,P3⟩;obtain⟨e5,e7,e6,e8,a0,P7⟩:=KpG.next H5.out P3.wk;have Y6:=aa a0;have R5:=aa P7;clear P3 a0 P7 E8 I6 H5;go_wp2_with fail
     refine bodyPost_end (results_none rfl _ _ _) rfl ?_;rw[HR.out];unfold again;rw[hN.out,hZ.out];exact⟨⟨_,rfl⟩,ub,Q3.out,⟨_,_,_,_,Y6.out,R5.out.1⟩,R5.out.2⟩
end Gf
end
section
open Go.RowKit
open Rw
set_option maxRecDepth 100000
attribute [local go_sem] dp
namespace Gf
open Co Dn
theorem zhs {fn:Func}{p:Tmp}{ty:TypeId}(h:fn.results=#[.cell p ty])(tmps:Array Value)(P:Program)(w:World):
  (results fn tmps).run P w=((asAddr (tmps.getD p undef)).run P w).andThen fun a w₁=>(loadVar ty a).run P w₁:=by
 simp only[results,h];simp[Sem.run_bind,Result.andThen]
theorem ztk (W:World):(sizeOf (Tryz.prog.elem 63)).run Tryz.prog W=.ok 5 W:=by
 obtain⟨i,hi,hz,A0,A1⟩:=info_split zjp;have he:Tryz.prog.elem 63=104:=by kernel_rfl
 rw[he];simp[sizeOf,typeInfo,hi,A0]
theorem zxl {w:World}{base:Nat}{v:Value}{n:Nat}{xs:List Value}(h:gm w base 104 5 v (n+1) xs):
  ∃ g o c v',v=.slice (some ⟨g,o,none⟩) (n+1) c∧(∀ W,(Instr.sliceAt 63 (.slice (some ⟨g,o,none⟩) (n+1) c) (some (.int .i64 1)) none none).run Tryz.prog W=.ok v' W)∧gm w base 104 5 v' n (xs.drop 5)∧v'.ownBlock=some g:=by
 obtain⟨g,o,c,rfl,hc,ht⟩:=zta h;have A0:=h.1;refine⟨g,o,c,.slice (if c=1 then some ⟨g,o,none⟩ else some ⟨g,o+5,none⟩) n (c - 1),rfl,fun W=>?_,?_,by split<;>rfl⟩
 ·rw[run_sliceAt_slice (h:=Tryz.underlying63),run_slice_l (ht:=Tryz.underlying63) (h0:=by omega) (h1:=by omega),ztk];simp[Result.andThen,sliced,add_gen]
 ·by_cases h1:c=1
  ·subst h1;obtain rfl:n=0:=by omega
   rw[if_pos rfl];rcases h.2 with⟨_,h0⟩|⟨g',o',cap,cur,e,hb,A2,A3,hm,hs,A1⟩
   ·cases h0
   ·simp only[Value.slice.injEq,Option.some.injEq,Addr.mk.injEq,and_true] at e;obtain⟨⟨rfl,rfl⟩, -,rfl⟩:=e;refine⟨by rw[List.length_drop,A0],.inr ⟨g,o,0,cur,rfl,hb,A2,Nat.le_refl _,by unfold maxLen; omega,by omega,?_⟩⟩;rw[Nat.zero_mul,List.take_zero];exact(List.drop_eq_nil_of_le (by omega)).symm
  ·rw[if_neg h1];exact ht
structure MkRun (t:T)(sh:Bool)(k mb cb:Nat)(w:World)(m:Mk)(W:World):Prop where
 st:St k m
 res:∃ n,run sh n m=eu sh t∧Gf.tot m.jobs≤n
 at':∃ vw vi vj kb,MkAt mb sh m vw vi vj kb W
 bel:Below mb w W
 box:Bx mb [(cb,#[.int .i64 0,.slice none 0 0,.slice none 0 0],29)] W
set_option maxHeartbeats 8000000 in
theorem zjf (sh:Bool)(t:T)(mb:Nat)(v:Value)(w:World)(hx:t.letter=99)(hd:t.depth≤200)(hs:t.size≤2000)(hv:CoreAt mb w t v)
  (hb:w.heap[mb]? = some (.cells #[.int .i64 0,.slice none 0 0,.slice none 0 0,.bool sh,.slice none 0 0,.int .i64 0,.map none,.bool false] 66 (0,0))):
  Calls Tryz.prog 21 #[.pointer (some ⟨mb,0,none⟩),v] w (fun e w'=>∃ vw vi vj kb,e=.returned (.agg #[.int .i64 (eu sh t).regs,vw,vi])∧MkAt mb sh (eu sh t) vw vi vj kb w'∧Below mb w w'):=by
 have D1:mb<w.heap.size:=af hb;have E0:=hv;obtain⟨q,c,rfl,I4,I2,I3,H3,I0⟩:=hv.open;have C6:=aa (zg sh t hx hd);have A2:=aa (show eu sh t=run sh t.size (con sh 200 t mk0).fin from rfl);have D5:=aa (cx sh 200 t mk0 0 hx ⟨Nat.le_refl _,by decide,by decide,Nat.le_refl _,fun v r e=>by cases e⟩);have HX:=aa (And.intro hx (And.intro hd hs));have F4:=aa (fun (W:World) (b:Below mb w W)=>(E0.kept b (Nat.le_refl _)));obtain⟨op,n,s,ks⟩:=t;simp only[T.op,T.n,T.s,T.ks] at F4 ⊢;have B1:=(Below.refl w.heap.size w).alloc (Nat.le_refl _) (.cells #[.int .i64 op,.int .i64 n,.string s,.slice q ks.length c] 24);have y1:=heap_alloc_new w (.cells #[.int .i64 op,.int .i64 n,.string s,.slice q ks.length c] 24);have B2:=(Below.refl (w.heap.size+1) (w.alloc (.cells #[.int .i64 op,.int .i64 n,.string s,.slice q ks.length c] 24))).alloc (by simp) (.cells #[.int .i64 0,.slice none 0 0,.slice none 0 0] 29);have y2:=heap_alloc_new (w.alloc (.cells #[.int .i64 op,.int .i64 n,.string s,.slice q ks.length c] 24)) (.cells #[.int .i64 0,.slice none 0 0,.slice none 0 0] 29);simp only[World.size_alloc] at y2;have z1:=(B2.block _ (by omega)).trans y1;have BA:=B1.trans (B2.mono (by omega));have A5:=aa (((Bx.nil mb _).cons z1 D1 rfl).cons y2 (by omega) rfl);have A9:=aa (ag BA hb);have HB:=aa (BA.mono (Nat.le_of_lt D1));have I9:=aa D1;clear B1 y1 B2 y2 z1 BA hb hv E0 I0 I4 I2 I3 H3 hx hd hs;go_enter Tryz.func21,Tryz.ntmps21;go_upto_region 1 with(fail)
 obtain⟨B,hB⟩:∃ B,Hid (w.heap.size=B):=⟨_,aa rfl⟩
 simp only[hB.out] at A5 ⊢;have B0:=aa (show mb<B by rw[←hB.out]; exact I9.out);generalize World.alloc _ _=w1 at *;have H8:=@run_makeMap Tryz.prog;have BM:=(Below.refl w1.heap.size w1).alloc (Nat.le_refl _) (.map #[] 0);have C4:=ag BM A9.out;have m6:=ab C4 6 _ rfl;have f6:=frozen_of (o:=6) C4;have s1:=heap_setCell_same (w1.alloc (.map #[] 0)) mb 6 _ _ (.map (some w1.heap.size)) C4;have gs:=grown_set (w1.alloc (.map #[] 0)) mb 6 (.map (some w1.heap.size));have A6:=af A9.out;have kn:=(Kn.made w1).kept gs (fun e=>by cases e; omega);have D4:=aa (show MkAt mb sh mk0 (.slice none 0 0) (.slice none 0 0) (.slice none 0 0) w1.heap.size _ from⟨s1,⟨rfl,.inl ⟨rfl,rfl⟩⟩,⟨rfl,.inl ⟨rfl,rfl⟩⟩,⟨[],rfl,zsz _ _ _ _,fun x hx=>by cases hx⟩,⟨0,Nat.le_refl _,kn⟩,A6⟩);have D6:=aa (show Below mb w _ from(HB.out.trans (BM.mono (Nat.le_of_lt A6))).trans (Below.setCell (p:=⟨mb,6,none⟩) (Below.refl mb _) (Nat.le_refl _) (.map (some w1.heap.size))));have A1:=aa (show Bx mb _ _ from⟨fun x hx=>box_grown gs (by have:=(A5.out.ok x hx).1; omega) ((A5.out.below BM).at' x hx),A5.out.ok⟩);clear BM C4 s1 gs kn A6;go_upto_region 2 with(fail)
 clear m6 f6 H8 A9 A5 HB;obtain⟨kb,I1⟩:∃ kb,Hid (w1.heap.size=kb):=⟨_,aa rfl⟩
 generalize World.setCell _ _ _=w2 at *;rw[I1.out] at D4;have c0:=ab (A1.out.at' _ (.tail _ (.head _))) 0 _ rfl;have c1:=ab (A1.out.at' _ (.tail _ (.head _))) 1 _ rfl;have c2:=ab (A1.out.at' _ (.tail _ (.head _))) 2 _ rfl;have c3:=ab (A1.out.at' _ (.tail _ (.head _))) 3 _ rfl;simp only at c0 c1 c2 c3;have HC:=aa (sr sh 200 (T.mk op n s ks) mk0 0 mb kb (.slice none 0 0) (.slice none 0 0) (.slice none 0 0) _ w2 HX.out.1 HX.out.2.1 (F4.out w2 D6.out) D4.out ⟨Nat.le_refl _,by decide,by decide,Nat.le_refl _,fun v r e=>by cases e⟩ (by have:=HX.out.2.2; omega));obtain⟨C,hC⟩:∃ C,Hid (con sh 200 (T.mk op n s ks) mk0=C):=⟨_,aa rfl⟩
 rw[hC.out] at HC C6 A2 D5;have J0:=aa (show C.ins.length≤700000 by have:=D5.out.len; have:=HX.out.2.2; omega);go_wp2_with fail
 refine HC.out.mono ?_;rintro e w3 ⟨⟨r3,rfl⟩,C2⟩;have B9:=aa (A1.out.kp C2.kp (u:=[]) am);have F6:=aa (D6.out.trans C2.kp.bel);obtain⟨F9,G5,G2,G8,m3, -⟩:=C2.at';have E9:=aa m3;clear C2 m3 HC c0 c1 c2 c3 D4 D6 A1;have F0:=aa (ud mb G8 sh C F9 G5 G2 w3 E9.out (by have:=J0.out; omega));go_wp2_with fail
 refine F0.out.mono ?_;rintro e w4 ⟨⟨r4,rfl⟩,C1⟩;have F1:=aa (show ∃ m,MkRun (T.mk op n s ks) sh (8 * (T.mk op n s ks).size+1) mb (B+1) w m w4 by
  obtain⟨F8,G4,G1,G7,m4, -⟩:=C1.at';exact⟨C.fin,C6.out.1,⟨_,A2.out.symm,C6.out.2⟩,⟨F8,G4,G1,G7,m4⟩,F6.out.trans C1.kp.bel,(B9.out.kp C1.kp (u:=[]) am).sub (fun x hx=>by simp only[List.mem_singleton] at hx; subst hx; exact .head _)⟩)
 clear C1 F0 E9 F6 B9 C6 A2 D5;go_upto_region 4 with(fail)
 obtain⟨wo,D9⟩:∃ wo,wo=w4:=⟨_,rfl⟩
 rw[←D9] at F1 ⊢;clear D9;go_loopw [5] (fun _ wr=>Hid (∃ m,MkRun (T.mk op n s ks) sh (8 * (T.mk op n s ks).size+1) mb (B+1) w m wr)) (fun _ wr=>zcp fun x=>∃ m,MkRun (T.mk op n s ks) sh (8 * (T.mk op n s ks).size+1) mb (B+1) w m wr∧Gf.tot m.jobs=x)
 case atStart=>exact F1
 case round=>
  obtain⟨m0,E4⟩:=hrel.out;obtain⟨m,hm,E2⟩:=zjh (P:=fun x=>∃ m,MkRun (T.mk op n s ks) sh (8 * (T.mk op n s ks).size+1) mb (B+1) w m wr∧Gf.tot m.jobs=x) ⟨m0,E4,rfl⟩;obtain⟨vw,vi,vj,C8,E3⟩:=hm.at';have HM:=aa E3;have HR:=aa hm;have I8:=aa E2;clear hrel E4 hm E2 E3;obtain⟨J,A7,B6,C5⟩:=HM.out.rj;cases hj:m.jobs with
  |nil=>
   have I5:J=[]:=by rw[hj] at A7; exact List.map_eq_nil_iff.1 A7.symm
   subst I5;obtain⟨pj,cj,H1⟩:=zbc B6;subst H1;have m4:=ab HM.out.box 4 _ rfl;have H5:=HM.out.rw;obtain⟨pw,cw,H0⟩:=dt HM.out.rw;subst H0;obtain⟨pi,ci,H2⟩:=dt HM.out.ri;subst H2;have q0:=ab HM.out.box 0 _ rfl;have q1:=ab HM.out.box 1 _ rfl;have q2:=ab HM.out.box 2 _ rfl;have A3:wr.heap[B+1]? = some (.cells #[.int .i64 0,.slice none 0 0,.slice none 0 0] 29 (0,0)):=HR.out.box.at' _ (.head _);have e0:=ab A3 0 _ rfl;have e1:=ab A3 1 _ rfl;have e2:=ab A3 2 _ rfl;have J4:=frozen_of (o:=0) A3;have J3:=frozen_of (o:=1) A3;have J2:=frozen_of (o:=2) A3;obtain⟨nn,B4,D0⟩:=HR.out.res;have HE:=aa (show m=eu sh (T.mk op n s ks) by rw[←B4,xx hj]);have g1:=grown_set wr (B+1) 0 (.int .i64 m.regs);have M1:=HM.out.other g1 A3 (by have:=B0.out; omega) (by decide) (by decide) (by decide);have b1:=heap_setCell_same wr (B+1) 0 _ _ (.int .i64 m.regs) A3;have g2:=grown_set (wr.setCell ⟨B+1,0,none⟩ (.int .i64 m.regs)) (B+1) 1 (.slice pw m.ws.length cw);have M2:=M1.other g2 b1 (by have:=B0.out; omega) (by decide) (by decide) (by decide);have b2:=heap_setCell_same (wr.setCell ⟨B+1,0,none⟩ (.int .i64 m.regs)) (B+1) 1 _ _ (.slice pw m.ws.length cw) b1;have g3:=grown_set ((wr.setCell ⟨B+1,0,none⟩ (.int .i64 m.regs)).setCell ⟨B+1,1,none⟩ (.slice pw m.ws.length cw)) (B+1) 2 (.slice pi m.ins.length ci);have M3:=M2.other g3 b2 (by have:=B0.out; omega) (by decide) (by decide) (by decide);have C3:∀(W W':World) (k:Nat),W.grownBy W' (some k)→mb<k→mb≤W.heap.size→Below mb W W':=fun W W' k g h h2=>⟨g.os,g.tape,g.output,g.size,fun j hj=>g.block j (by omega) (fun e=>by cases e; omega)⟩
   have B8:=aa (And.intro M3 (((HR.out.bel.trans (C3 _ _ _ g1 (by have:=B0.out; omega) (Nat.le_of_lt HM.out.lt))).trans (C3 _ _ _ g2 (by have:=B0.out; omega) (Nat.le_of_lt M1.lt))).trans (C3 _ _ _ g3 (by have:=B0.out; omega) (Nat.le_of_lt M2.lt))));clear A7 B6 C5 H5 A3 B4 D0 hj g1 M1 b1 g2 M2 b2 g3 M3 C3;go_wp2_with fail
   refine bodyPost_ret (v:=.agg #[.int .i64 m.regs,.slice pw m.ws.length cw,.slice pi m.ins.length ci]) (by rw[zhs rfl]; go_simp) rfl ?_;rw[←HE.out];exact⟨_,_,_,_,rfl,B8.out.1,B8.out.2⟩
  |cons y r=>
   obtain⟨x,J',rfl⟩:∃ x J',J=x::J':=by
    cases J with
    |nil=>rw[hj] at A7; cases A7
    |cons x J'=>exact⟨x,J',rfl⟩
   have B7:=A7;rw[hj,List.map_cons,List.cons.injEq] at B7;obtain⟨rfl,hr⟩:=B7;obtain⟨g,o,cq,v',rfl,H4,C9,H6⟩:=zxl B6;have A0:=zei B6 rfl;have D3:=C5 x (.head _);obtain⟨xj,xt,xp,xc⟩:=x;obtain⟨xo,xn,xs,xk⟩:=xt;simp only[Jb.v,T.op,T.n,T.s,T.ks] at D3 hj;have u0:wr.cell? ⟨g,o,none⟩=some (.int .i64 xj):=A0 0 _ rfl;have u1:wr.cell? ⟨g,o+1,none⟩=some (.int .i64 xo):=A0 1 _ rfl;have u2:wr.cell? ⟨g,o+2,none⟩=some (.int .i64 xn):=A0 2 _ rfl;have u3:wr.cell? ⟨g,o+3,none⟩=some (.string xs):=A0 3 _ rfl;have u4:wr.cell? ⟨g,o+4,none⟩=some (.slice xp xk.length xc):=A0 4 _ rfl;have m4:=ab HM.out.box 4 _ rfl;have E5:=HR.out.st.job hj;have B5:=HR.out.st.fit hj;have C7:=aa E5;have F2:=aa B5;have I7:=aa (HR.out.st.next hj sh);have I6:=aa (HR.out.st.tot hj sh);obtain⟨nn,B4,D0⟩:=HR.out.res;have A2:=aa (show ∃ n',run sh n' (wait sh xj (T.mk xo xn xs xk) (aw m r))=eu sh (T.mk op n s ks)∧Gf.tot (wait sh xj (T.mk xo xn xs xk) (aw m r)).jobs≤n' by
    have h1:=HR.out.st.tot hj sh;cases nn with
    |zero=>omega
    |succ nn=>exact⟨nn,by rw[←B4,zdl hj],by omega⟩)
   have BN:=(Below.refl wr.heap.size wr).alloc (Nat.le_refl _) (.cells #[.int .i64 xj,.int .i64 xo,.int .i64 xn,.string xs,.slice xp xk.length xc] 104);have yn:=heap_alloc_new wr (.cells #[.int .i64 xj,.int .i64 xo,.int .i64 xn,.string xs,.slice xp xk.length xc] 104);have A4:=HM.out.below BN;obtain⟨z,cz,hz⟩:=zbc C9;subst hz;have B3:=zbb C9 (grown_of_below BN none) (by cases(Value.slice z J'.length cz).ownBlock<;>simp);have s4:=heap_setCell_same (wr.alloc (.cells #[.int .i64 xj,.int .i64 xo,.int .i64 xn,.string xs,.slice xp xk.length xc] 104)) mb 4 _ _ (.slice z J'.length cz) A4.box;have gs:=grown_set (wr.alloc (.cells #[.int .i64 xj,.int .i64 xo,.int .i64 xn,.string xs,.slice xp xk.length xc] 104)) mb 4 (.slice z J'.length cz);have E1:JbRow (mb+1) mb (wr.alloc (.cells #[.int .i64 xj,.int .i64 xo,.int .i64 xn,.string xs,.slice xp xk.length xc] 104)) (.slice z J'.length cz) r:=⟨J',hr,B3,fun x hx=>(C5 x (.tail _ hx)).kept (BN.mono (Nat.le_of_lt HM.out.lt)) (Nat.le_refl _)⟩
   have D2:=frozen_of (o:=4) A4.box;have H9:=ab A4.box 4 _ rfl;have E8:=aa (show MkAt mb sh (aw m r) vw vi (.slice z J'.length cz) C8 _ from MkAt.reset (m':=aw m r) (kb':=C8) 4 (.slice z J'.length cz) A4.box rfl A4.rw A4.ri E1 A4.kn A4.kb);have F5:=aa (show Below mb w _ from(HR.out.bel.trans (BN.mono (Nat.le_of_lt HM.out.lt))).trans (Below.setCell (p:=⟨mb,4,none⟩) (Below.refl mb _) (Nat.le_refl _) (.slice z J'.length cz)));have A5:=aa (show Bx mb [(B+1,#[.int .i64 0,.slice none 0 0,.slice none 0 0],29)] _ from⟨fun x hx=>box_grown gs (by have:=(HR.out.box.ok x hx).1; omega) ((HR.out.box.below BN).at' x hx),HR.out.box.ok⟩);have D7:=box_grown gs (show wr.heap.size≠mb from by have:=HM.out.lt; omega) yn;have A8:=aa D7;have F3:=aa (show CoreAt mb _ (T.mk xo xn xs xk) (.agg #[.int .i64 xo,.int .i64 xn,.string xs,.slice xp xk.length xc]) from D3.kept ((BN.mono (Nat.le_of_lt HM.out.lt)).trans (Below.setCell (p:=⟨mb,4,none⟩) (Below.refl mb _) (Nat.le_refl _) (.slice z J'.length cz))) (Nat.le_refl _));have D8:(0:Int)<((J'.length+1:Nat):Int):=by omega
   have G9:decide ((0:Int)<((J'.length+1:Nat):Int))=true:=decide_eq_true D8;have J5:=aa (show True from trivial);clear A7 B6 C5 hr C9 B3 H6 A0 D3 E5 B5 B4 D0 hj BN yn A4 s4 gs E1 D7;go_upto_region 6 with(fail)
   clear u0 u1 u2 u3 u4 m4 D8 G9;obtain⟨nb,H7⟩:∃ nb,Hid (wr.heap.size=nb):=⟨_,aa rfl⟩
   simp only[H7.out] at A8 ⊢;go_upto_region 7 with(fail)
   clear H9 D2 H4;generalize World.setCell _ _ _=w5 at *;have o0:=ab A8.out 0 _ rfl;have o1:=ab A8.out 1 _ rfl;have o2:=ab A8.out 2 _ rfl;have o3:=ab A8.out 3 _ rfl;have o4:=ab A8.out 4 _ rfl;have E6:=F2.out.1;have HW:=aa (zst sh xj xo xn xs xk (aw m r) (m.ins.length+m.ws.length+na r) mb C8 vw vi (.slice z J'.length cz) xp xc w5 C7.out.2.1 C7.out.2.2.1 C7.out.2.2.2 F3.out E8.out C7.out.1 E6 (by have h1:=F2.out.2; have h2:=HX.out.2.2; omega));clear E6;go_wp2_with fail
   refine HW.out.mono ?_;rintro e w6 ⟨⟨r6,rfl⟩,ub,J1,C0⟩;have E7:=aa (show MkRun (T.mk op n s ks) sh (8 * (T.mk op n s ks).size+1) mb (B+1) w (wait sh xj (T.mk xo xn xs xk) (aw m r)) w6 by
    obtain⟨F7,G3,G0,G6,m6, -⟩:=C0.at';refine⟨I7.out,A2.out,⟨F7,G3,G0,G6,m6⟩,F5.out.trans C0.kp.bel,⟨fun x hx=>?_,A5.out.ok⟩⟩;rw[List.mem_singleton] at hx;subst hx;have e:w5.heap[B+1]? = some (.cells #[.int .i64 0,.slice none 0 0,.slice none 0 0] 29 (0,0)):=A5.out.at' _ (.head _);have h1:=B0.out;have h2:=af e;have e6:=C0.kp.box (k:=B+1) (by omega) (fun u e=>by cases e; exact⟨by omega,by decide⟩) (by decide) (by decide) (by decide) e;exact e6)
   clear C0 HW o0 o1 o2 o3 o4 E8 F5 A5 A8 F3 HM HR;go_wp2_with fail
   go_roundw;case rel=>exact aa ⟨_,E7.out⟩
   case measure=>
    rw[←I8.out];exact Nat.lt_of_le_of_lt (zjg ⟨_,E7.out,rfl⟩) (by have:=I6.out; omega)
end Gf
end
section
open Go.RowKit
open Rw
set_option maxRecDepth 100000
namespace Gf
open Co Dn
theorem zim {α:Type}{l m:List α}{n k:Nat}{x:α}(h:l.take n=m)(hx:m[k]? = some x):l[k]? = some x:=by
 rw[←h] at hx;rw[List.getElem?_take] at hx;split at hx
 ·exact hx
 ·cases hx
theorem zoq {base:Nat}{W:World}{v:Value}{L:List Gen.Wt}(h:pd base W v L)(hf:∀(p:Nat) x,L[p]? = some x→WtFits x):WaitsAt W v L:=by
 obtain⟨h0,⟨rfl,hz⟩|⟨g,cap,cur,rfl,h2,h3,h4,h5,h6,h7⟩⟩:=h
 ·exact⟨none,0,by rw[hz],⟨by omega,by unfold maxLen; omega⟩,fun i w hi=>by have:=(List.getElem?_eq_some_iff.1 hi).1; omega⟩
 ·refine⟨_,cap,rfl,⟨h4,h5⟩,fun i w hi=>⟨g,0,rfl,af h3,?_,hf i w hi⟩⟩;have ha:=fun (j:Nat) (hj:j<5)=>cells_at wt5 5 (fun _=>rfl) L i w j hi hj;have hc:=fun (j:Nat) (hj:j<5) (u:Value) (hu:(wt5 w)[j]? = some u)=>(show W.cell? ⟨g,0+i * 5+j,none⟩=some u by
   have:=zim h7 ((ha j hj).trans hu);rw[Nat.zero_add];simp only[World.cell?,h3];rw[Array.getElem?_toList] at this;simpa using this)
  exact⟨hc 0 (by omega) _ rfl,hc 1 (by omega) _ rfl,hc 2 (by omega) _ rfl,hc 3 (by omega) _ rfl,hc 4 (by omega) _ rfl⟩
theorem zqp {base:Nat}{W:World}{v:Value}{L:List Gen.Ix}(h:oo base W v L)(hf:∀(p:Nat) x,L[p]? = some x→IxFits x):InsAt W v L:=by
 obtain⟨h0,⟨rfl,hz⟩|⟨g,cap,cur,rfl,h2,h3,h4,h5,h6,h7⟩⟩:=h
 ·exact⟨none,0,by rw[hz],⟨by omega,by unfold maxLen; omega⟩,fun i w hi=>by have:=(List.getElem?_eq_some_iff.1 hi).1; omega⟩
 ·refine⟨_,cap,rfl,⟨h4,h5⟩,fun i w hi=>⟨g,0,rfl,af h3,?_,hf i w hi⟩⟩;have ha:=fun (j:Nat) (hj:j<7)=>cells_at ix7 7 (fun _=>rfl) L i w j hi hj;have hc:=fun (j:Nat) (hj:j<7) (u:Value) (hu:(ix7 w)[j]? = some u)=>(show W.cell? ⟨g,0+i * 7+j,none⟩=some u by
   have:=zim h7 ((ha j hj).trans hu);rw[Nat.zero_add];simp only[World.cell?,h3];rw[Array.getElem?_toList] at this;simpa using this)
  exact⟨hc 0 (by omega) _ rfl,hc 1 (by omega) _ rfl,hc 2 (by omega) _ rfl,hc 3 (by omega) _ rfl,hc 4 (by omega) _ rfl,hc 5 (by omega) _ rfl,hc 6 (by omega) _ rfl⟩
theorem zzv {mb kb:Nat}{sh:Bool}{m:Mk}{vw vi vj:Value}{W:World}(h:MkAt mb sh m vw vi vj kb W)(hf:Ff m)(hr:I64 m.regs):CdAt W (.agg #[.int .i64 m.regs,vw,vi]) m.code:=
 ⟨vw,vi,rfl,zoq h.rw hf.ws,zqp h.ri hf.ins,hr⟩
def zej (p:Int):Bool:=!(bits BinOp.and IntKind.i64 p 8 == 0)
noncomputable def mg (t:T)(p:Int):Bool:=zej p && (!(eu true (t.rw p)).over && Gen.right (eu true (t.rw p)).code)
noncomputable def xi (t:T)(p:Int):Gen.Cd:=bif mg t p then(eu true (t.rw p)).code else(eu false (t.rw p)).code
def im (t:T)(p:Int):Int:=if fits t p=true then(if 250<dd t then 171 else 0) else 170
noncomputable def dk (t:T)(p:Int):Gen.Cd:=if im t p=0 then xi t p else ⟨0,[],[]⟩
theorem zmr (W:World):CdAt W (.agg #[.int .i64 0,.slice none 0 0,.slice none 0 0]) ⟨0,[],[]⟩:=
 ⟨_,_,rfl,⟨none,0,rfl,⟨Nat.le_refl _,Nat.zero_le _⟩,fun i w h=>by cases h⟩,⟨none,0,rfl,⟨Nat.le_refl _,Nat.zero_le _⟩,fun i w h=>by cases h⟩,by show I64 0; unfold I64; omega⟩
theorem wm {t:T}{p:Int}(h:fits t p=true):t.good:=by
 unfold fits at h;rw[Bool.and_eq_true] at h;exact(check_good t).1 (by simpa using h.1)
theorem zfe {t:T}{p:Int}(h:im t p=0):Gen.right (xi t p)=true:=by
 unfold im at h;split at h
 ·rename_i hf;split at h
  ·cases h
  ·rename_i hm;have hg:=wm hf;have A0:=zfo (p:=p) hg;obtain⟨s1,s2⟩:=(sf _).1 A0.1;have hl:=zxb p t (by rw[hg.2.1]; decide);unfold xi;cases hs:mg t p with
   |true=>
    unfold mg at hs;simp only[Bool.and_eq_true] at hs;exact hs.2.2
   |false=>exact znl A0.2.1 s2 s1 A0.2.2 (by have:=hl.many; omega)
 ·cases h
def zyc (t:T)(p:Int)(w:World)(e:Ending)(w':World):Prop:=Below w.heap.size w w'∧∃ r vw vi,e=.returned (.tuple #[.agg #[.int .i64 r,vw,vi],.int .i64 (im t p)])∧CdAt w' (.agg #[.int .i64 r,vw,vi]) (dk t p)
def ztl (W:World)(b:Nat)(x y z:Value):World:=((W.setCell ⟨b,0,none⟩ x).setCell ⟨b,1,none⟩ y).setCell ⟨b,2,none⟩ z
theorem zek (W:World)(b:Nat)(x y z:Value):W.grownBy (ztl W b x y z) (some b):=grown_trans (grown_trans (grown_set W b 0 x) (grown_set _ b 1 y)) (grown_set _ b 2 z)
theorem th {n:Nat}{W0 W:World}{b:Nat}(h:Below n W0 W)(hb:n≤b)(x y z:Value):Below n W0 (ztl W b x y z):=
 ((Below.setCell (p:=⟨b,0,none⟩) h hb x).setCell (p:=⟨b,1,none⟩) hb y).setCell (p:=⟨b,2,none⟩) hb z
theorem zmq {mb kb b:Nat}{sh:Bool}{m:Mk}{vw vi vj:Value}{W:World}{cur:Array Value}(h:MkAt mb sh m vw vi vj kb W)(hf:Ff m)(hr:I64 m.regs)(e:W.heap[b]? = some (.cells cur 29 (0,0)))(x y z:Value):CdAt (ztl W b x y z) (.agg #[.int .i64 m.regs,vw,vi]) m.code:=
 ⟨vw,vi,rfl,zoq (show pd (mb+1) _ vw m.ws from World.ownsRow.kept h.rw (zek W b x y z) (ya h.rw e (by decide))) hf.ws,zqp (show oo (mb+1) _ vi m.ins from World.ownsRow.kept h.ri (zek W b x y z) (ya h.ri e (by decide))) hf.ins,hr⟩
set_option maxHeartbeats 8000000 in
theorem zdg (t:T)(v:Value)(p:Int)(w:World)(hv:CoreIn (fun b=>b<w.heap.size) w t v)(F0:t.size≤2000000):
  Calls Tryz.prog 7 #[v,.int .i64 p] w (zyc t p w):=by
 obtain⟨op,n,s,q,ln,c,rfl,G7,hn,hs,H0⟩:=dw hv;have HV:=aa hv;have E1:=aa F0;have B1:=(Below.refl w.heap.size w).alloc (Nat.le_refl _) (.cells #[.int .i64 op,.int .i64 n,.string s,.slice q ln c] 24);have y1:=heap_alloc_new w (.cells #[.int .i64 op,.int .i64 n,.string s,.slice q ln c] 24);have B2:=(Below.refl (w.heap.size+1) (w.alloc (.cells #[.int .i64 op,.int .i64 n,.string s,.slice q ln c] 24))).alloc (by simp) (.cells #[.int .i64 0,.slice none 0 0,.slice none 0 0] 29);have y2:=heap_alloc_new (w.alloc (.cells #[.int .i64 op,.int .i64 n,.string s,.slice q ln c] 24)) (.cells #[.int .i64 0,.slice none 0 0,.slice none 0 0] 29);simp only[World.size_alloc] at y2;have z1:=(B2.block _ (by omega)).trans y1;have C7:=aa (B1.trans (B2.mono (by omega)));have A6:=aa z1;have E4:=aa y2;clear B1 y1 B2 y2 z1 G7 hn hs H0 hv F0;go_enter Tryz.func7,Tryz.ntmps7;go_upto_region 1 with(fail)
 obtain⟨B,hB⟩:∃ B,Hid (w.heap.size=B):=⟨_,aa rfl⟩
 simp only[hB.out] at A6 E4 ⊢;generalize World.alloc _ _=w1 at *;have c0:=ab A6.out 0 _ rfl;have c1:=ab A6.out 1 _ rfl;have c2:=ab A6.out 2 _ rfl;have c3:=ab A6.out 3 _ rfl;have HD:=aa (zys (fun b=>b<w.heap.size) t _ p w1 (fun b h=>Nat.lt_of_lt_of_le h C7.out.size) (HV.out.under C7.out) E1.out);go_wp2_with fail
 refine HD.out.mono ?_;rintro e w2 ⟨b2,va,rfl,ha⟩;obtain⟨aop,an,ast,ap,al,ac,rfl, -⟩:=dw ha;have E7:=aa (C7.out.trans (b2.mono C7.out.size));have G1:=aa (ag b2 A6.out);have F7:=aa (ag b2 E4.out);have G6:=aa ha;clear b2 ha c0 c1 c2 c3 HD C7 A6 E4;have BN:=(Below.refl w2.heap.size w2).alloc (Nat.le_refl _) (.cells #[.int .i64 aop,.int .i64 an,.string ast,.slice ap al ac] 24);have yn:=heap_alloc_new w2 (.cells #[.int .i64 aop,.int .i64 an,.string ast,.slice ap al ac] 24);have A7:=aa (E7.out.trans (BN.mono E7.out.size));have B8:=aa (ag BN G1.out);have B3:=aa (ag BN F7.out);have E9:=aa (G6.out.under BN);have E0:=aa yn;have H2:=aa (show w2.heap.size<(w2.alloc (.cells #[.int .i64 aop,.int .i64 an,.string ast,.slice ap al ac] 24)).heap.size from af yn);clear BN yn;go_upto_region 2 with(fail)
 obtain⟨A,hA⟩:∃ A,Hid (w2.heap.size=A):=⟨_,aa rfl⟩
 simp only[hA.out] at E0 H2 ⊢;generalize World.alloc _ _=w3 at *;clear E7 G1 F7 G6;have r0:=ab B3.out 0 _ rfl;have r1:=ab B3.out 1 _ rfl;have r2:=ab B3.out 2 _ rfl;have fz:∀ o,w3.frozen? ⟨B+1,o,none⟩=false:=fun o=>frozen_of B3.out;have c0:=ab B8.out 0 _ rfl;have c1:=ab B8.out 1 _ rfl;have c2:=ab B8.out 2 _ rfl;have c3:=ab B8.out 3 _ rfl;cases hfit:fits t p with
 |false=>
  have hE:optE t p=160:=by unfold optE; rw[hfit]; rfl
  have HE:=aa (show im t p=170 by unfold im; rw[if_neg (by rw[hfit]; decide)]);have B7:=aa (show dk t p=⟨0,[],[]⟩ by unfold dk; rw[if_neg (by rw[HE.out]; decide)]);rw[hE];clear hE hfit;go_wp2_with fail
  refine bodyPost_ret (v:=.tuple #[.agg #[.int .i64 0,.slice none 0 0,.slice none 0 0],.int .i64 170]) (by rw[results_cell_tmp rfl]; go_simp) rfl ?_;exact⟨th A7.out (by have:=hB.out; omega) _ _ _,0,_,_,by rw[HE.out],by rw[B7.out]; exact zmr _⟩
 |true=>
  have hE:optE t p=0:=by unfold optE; rw[hfit]; rfl
  have hO:opt t p=t.rw p:=by unfold opt; rw[hfit]; rfl
  have hg:=wm hfit;have F2:t.check=0:=(check_good t).2 hg;have HG:=aa hg;have D6:=zfo (p:=p) hg;obtain⟨s1,s2⟩:=(sf _).1 D6.1;have HU:=aa (And.intro D6.2.1 (And.intro s2 s1));have G0:=aa hfit;rw[hE];rw[hO] at E9;have E5:=aa (zff t _ w3 ((HV.out.under A7.out).at' (Nat.le_refl _)) E1.out);rw[F2] at E5;have F8:=aa (fun (W:World) (b:Below w3.heap.size w3 W)=>zug t W.heap.size _ W ((HV.out.under (A7.out.trans (b.mono A7.out.size))).at' (Nat.le_refl _)) (Nat.le_refl _) (by rw[HG.out.2.1]; decide) E1.out);clear hE hO hg F2 D6 s1 s2 hfit;go_wp2_with fail
  refine E5.out.mono ?_;rintro e w4 ⟨rfl,b4⟩;have E6:=aa (A7.out.trans (b4.mono A7.out.size));have C4:=aa (ag b4 B8.out);have F6:=aa (ag b4 B3.out);have G5:=aa (E9.out.under b4);have F4:=aa (ag b4 E0.out);have F9:=aa (F8.out w4 b4);clear b4 c0 c1 c2 c3 r0 r1 r2 fz A7 B8 B3 E9 E0 E5 F8;have c0:=ab C4.out 0 _ rfl;have c1:=ab C4.out 1 _ rfl;have c2:=ab C4.out 2 _ rfl;have c3:=ab C4.out 3 _ rfl;go_wp2_with fail
  refine F9.out.mono ?_;rintro e w5 ⟨rfl,b5⟩;have B9:=aa (E6.out.trans (b5.mono E6.out.size));have A2:=aa (ag b5 F6.out);have C0:=aa (G5.out.under b5);have C1:=aa (ag b5 F4.out);clear b5 c0 c1 c2 c3 E6 C4 F6 G5 F4 F9;have r0:=ab A2.out 0 _ rfl;have r1:=ab A2.out 1 _ rfl;have r2:=ab A2.out 2 _ rfl;have fz:∀ o,w5.frozen? ⟨B+1,o,none⟩=false:=fun o=>frozen_of A2.out;by_cases hm:250<dd t
  ·have g1:decide (250<(dd t:Int))=true:=decide_eq_true (by omega);have HE:=aa (show im t p=171 by unfold im; rw[if_pos G0.out,if_pos hm]);have B7:=aa (show dk t p=⟨0,[],[]⟩ by unfold dk; rw[if_neg (by rw[HE.out]; decide)]);have G9:(250:Int)<(dd t:Int):=by omega
   go_wp2_with fail
   refine bodyPost_ret (v:=.tuple #[.agg #[.int .i64 0,.slice none 0 0,.slice none 0 0],.int .i64 171]) (by rw[results_cell_tmp rfl]; go_simp) rfl ?_;exact⟨th B9.out (by have:=hB.out; omega) _ _ _,0,_,_,by rw[HE.out],by rw[B7.out]; exact zmr _⟩
  ·have g1:decide (250<(dd t:Int))=false:=decide_eq_false (by omega);have HE:=aa (show im t p=0 by unfold im; rw[if_pos G0.out,if_neg hm]);have B7:=aa (show dk t p=xi t p by unfold dk; rw[if_pos HE.out]);have G9:¬(250:Int)<(dd t:Int):=by omega
   obtain⟨ub,C8⟩:∃ b,Hid ((bits BinOp.and IntKind.i64 p 8 == 0)=b):=⟨_,aa rfl⟩
   have D4:=C8.out;go_upto_if 32 with(fail)
   go_cut [32] (fun bb wx=>True∧Hid (mg t p=false∧Below w.heap.size w wx∧wx.heap[B+1]? = some (.cells #[.int .i64 0,.slice none 0 0,.slice none 0 0] 29 (0,0))∧CoreIn (fun b=>b<w.heap.size∨w1.heap.size≤b) wx (t.rw p) (.agg #[.int .i64 aop,.int .i64 an,.string ast,.slice ap al ac])∧wx.heap[A]? = some (.cells #[.int .i64 aop,.int .i64 an,.string ast,.slice ap al ac] 24 (0,0))));case first=>
    cases ub with
    |true=>
     go_wp2_with fail
     go_meet;exact⟨trivial,by unfold mg zej; rw[C8.out]; rfl,B9.out,A2.out,C0.out,C1.out⟩
    |false=>
     have F5:=aa (show zej p=true by unfold zej; rw[C8.out]; rfl);have BN:=(Below.refl w5.heap.size w5).alloc (Nat.le_refl _) (.cells #[.int .i64 0,.slice none 0 0,.slice none 0 0,.bool true,.slice none 0 0,.int .i64 0,.map none,.bool false] 66);have yn:=heap_alloc_new w5 (.cells #[.int .i64 0,.slice none 0 0,.slice none 0 0,.bool true,.slice none 0 0,.int .i64 0,.map none,.bool false] 66);have C6:=aa (B9.out.trans (BN.mono B9.out.size));have C2:=aa (ag BN A2.out);have H6:=aa (C0.out.under BN);have A1:=aa (ag BN C1.out);have B5:=aa (zjf true (t.rw p) w5.heap.size _ _ HU.out.1 HU.out.2.1 HU.out.2.2 ((C0.out.at' (Nat.le_refl _)).kept BN (Nat.le_refl _)) yn);have G2:=aa BN;have A0:=aa (show B+1<w5.heap.size∧A<w5.heap.size from⟨af A2.out,af C1.out⟩);clear BN yn r0 r1 r2 fz;go_upto_region 8 with(fail)
     obtain⟨mb,F1⟩:∃ mb,Hid (w5.heap.size=mb):=⟨_,aa rfl⟩
     simp only[F1.out] at B5 A0 ⊢;generalize World.alloc _ _=w6 at *;clear B9 A2 C1;have x0:=ab A1.out 0 _ rfl;have x1:=ab A1.out 1 _ rfl;have x2:=ab A1.out 2 _ rfl;have x3:=ab A1.out 3 _ rfl;go_wp2_with fail
     refine B5.out.mono ?_;rintro e w7 ⟨vw,vi,vj,kb,rfl,A3,b7⟩;have D7:∀(k:Nat) (o:Obj),k<mb→w6.heap[k]? = some o→w7.heap[k]? = some o:=fun k o hk e=>(b7.block k hk).trans e;have C5:=aa (C6.out.trans (b7.mono (by have h1:=A0.out.1; have h2:=hB.out; omega)));have A4:=aa (D7 _ _ A0.out.1 C2.out);have F3:=aa (D7 _ _ A0.out.2 A1.out);have G4:=aa (show CoreIn (fun b=>b<w.heap.size∨w1.heap.size≤b) w7 (t.rw p) _ from C0.out.keep fun b ho hl=>⟨ho,(b7.block b (by have:=F1.out; omega)).trans (G2.out.block b hl)⟩);clear x0 x1 x2 x3 C6 C2 H6 A1 C0 G2 D7 b7 B5;have C3:=aa A3;clear A3;obtain⟨mff,D1,D0,mil,mwl⟩:=zmh true HU.out.1 HU.out.2.1 HU.out.2.2;have B6:=aa mff;have A9:=aa (show I64 (eu true (t.rw p)).regs by unfold I64; omega);clear mff D1 D0 mil mwl;obtain⟨M,hM⟩:∃ M,Hid (eu true (t.rw p)=M):=⟨_,aa rfl⟩
     simp only[hM.out] at C3 B6 A9 ⊢;have BQ:=(Below.refl w7.heap.size w7).alloc (Nat.le_refl _) (.cells #[.int .i64 M.regs,vw,vi] 29);have yq:=heap_alloc_new w7 (.cells #[.int .i64 M.regs,vw,vi] 29);have C9:=aa (C5.out.trans (BQ.mono C5.out.size));have E3:=aa (ag BQ A4.out);have D9:=aa (ag BQ F3.out);have E8:=aa (G4.out.under BQ);have B4:=aa (C3.out.below BQ);have A8:=aa yq;obtain⟨pw,cw,D2⟩:=dt B4.out.rw;obtain⟨pi,ci,D3⟩:=dt B4.out.ri;subst D2;subst D3;clear BQ yq;go_upto_region 9 with(fail)
     obtain⟨nq,G8⟩:∃ nq,Hid (w7.heap.size=nq):=⟨_,aa rfl⟩
     simp only[G8.out] at A8 ⊢;generalize World.alloc _ _=w8 at *;clear C5 A4 G4 F3 C3;have m7:=ab B4.out.box 7 _ rfl;have y0:=ab A8.out 0 _ rfl;have y1:=ab A8.out 1 _ rfl;have y2:=ab A8.out 2 _ rfl;cases hov:M.over with
     |true=>
      rw[hov] at m7;have A5:=aa (show mg t p=false by unfold mg; rw[hM.out,hov,F5.out]; rfl);go_wp2_with fail
      go_meet;exact⟨trivial,A5.out,C9.out,E3.out,E8.out,D9.out⟩
     |false=>
      rw[hov] at m7;have E2:=aa (uy _ M.code w8 (zzv B4.out B6.out A9.out));have H3:=aa hov;clear hov;obtain⟨rt,D5⟩:∃ rt,Hid (Gen.right M.code=rt):=⟨_,aa rfl⟩
      rw[D5.out] at E2;go_wp2_with fail
      refine E2.out.mono ?_;rintro e w9 ⟨rfl,b9⟩;have G3:=aa (C9.out.trans (b9.mono C9.out.size));have B0:=aa (ag b9 E3.out);have H1:=aa (ag b9 D9.out);have H5:=aa (E8.out.under b9);have H4:=aa (B4.out.below b9);have D8:=aa (ag b9 A8.out);clear b9 m7 y0 y1 y2 C9 E3 E8 D9 B4 A8 E2;cases rt with
      |false=>
       have A5:=aa (show mg t p=false by unfold mg; rw[hM.out,D5.out,Bool.and_false,Bool.and_false]);go_wp2_with fail
       go_meet;exact⟨trivial,A5.out,G3.out,B0.out,H5.out,H1.out⟩
      |true=>
       have A5:=aa (show mg t p=true by unfold mg; rw[hM.out,D5.out,H3.out,F5.out]; rfl);have y0:=ab D8.out 0 _ rfl;have y1:=ab D8.out 1 _ rfl;have y2:=ab D8.out 2 _ rfl;have r0:=ab B0.out 0 _ rfl;have r1:=ab B0.out 1 _ rfl;have r2:=ab B0.out 2 _ rfl;have fz:∀ o,w9.frozen? ⟨B+1,o,none⟩=false:=fun o=>frozen_of B0.out;go_wp2_with fail
       refine bodyPost_ret (v:=.tuple #[.agg #[.int .i64 M.regs,.slice pw M.ws.length cw,.slice pi M.ins.length ci],.int .i64 0]) (by rw[results_cell_tmp rfl]; go_simp) rfl ?_;refine⟨th G3.out (by have:=hB.out; omega) _ _ _,M.regs,_,_,by rw[HE.out],?_⟩;rw[B7.out];unfold xi;rw[A5.out,hM.out];exact zmq H4.out B6.out A9.out B0.out _ _ _
   case rest=>
    obtain⟨-,HJ⟩:=hcut;have BN:=(Below.refl wc.heap.size wc).alloc (Nat.le_refl _) (.cells #[.int .i64 0,.slice none 0 0,.slice none 0 0,.bool false,.slice none 0 0,.int .i64 0,.map none,.bool false] 66);have yn:=heap_alloc_new wc (.cells #[.int .i64 0,.slice none 0 0,.slice none 0 0,.bool false,.slice none 0 0,.int .i64 0,.map none,.bool false] 66);have C6:=aa (HJ.out.2.1.trans (BN.mono HJ.out.2.1.size));have C2:=aa (ag BN HJ.out.2.2.1);have A1:=aa (ag BN HJ.out.2.2.2.2);have B5:=aa (zjf false (t.rw p) wc.heap.size _ _ HU.out.1 HU.out.2.1 HU.out.2.2 ((HJ.out.2.2.2.1.at' (Nat.le_refl _)).kept BN (Nat.le_refl _)) yn);have A0:=aa (show B+1<wc.heap.size from af HJ.out.2.2.1);have A5:=aa HJ.out.1;have x0:=ab A1.out 0 _ rfl;have x1:=ab A1.out 1 _ rfl;have x2:=ab A1.out 2 _ rfl;have x3:=ab A1.out 3 _ rfl;clear BN yn r0 r1 r2 fz B9 A2 C0 C1 C8 D4;go_wp2_with fail
    refine B5.out.mono ?_;rintro e w7 ⟨vw,vi,vj,kb,rfl,A3,b7⟩;have C5:=aa (C6.out.trans (b7.mono (by have h1:=A0.out; have h2:=hB.out; omega)));have A4:=aa ((b7.block _ A0.out).trans C2.out);obtain⟨mff,D1,D0,mil,mwl⟩:=zmh false HU.out.1 HU.out.2.1 HU.out.2.2;have B6:=aa mff;have A9:=aa (show I64 (eu false (t.rw p)).regs by unfold I64; omega);clear mff D1 D0 mil mwl;obtain⟨M,hM⟩:∃ M,Hid (eu false (t.rw p)=M):=⟨_,aa rfl⟩
    simp only[hM.out] at A3 B6 A9 ⊢;have C3:=aa A3;obtain⟨pw,cw,D2⟩:=dt A3.rw;obtain⟨pi,ci,D3⟩:=dt A3.ri;subst D2;subst D3;clear A3 b7 x0 x1 x2 x3 C6 C2 A1 B5;have r0:=ab A4.out 0 _ rfl;have r1:=ab A4.out 1 _ rfl;have r2:=ab A4.out 2 _ rfl;have fz:∀ o,w7.frozen? ⟨B+1,o,none⟩=false:=fun o=>frozen_of A4.out;go_wp2_with fail
    refine bodyPost_ret (v:=.tuple #[.agg #[.int .i64 M.regs,.slice pw M.ws.length cw,.slice pi M.ins.length ci],.int .i64 0]) (by rw[results_cell_tmp rfl]; go_simp) rfl ?_;refine⟨th C5.out (by have:=hB.out; omega) _ _ _,M.regs,_,_,by rw[HE.out],?_⟩;rw[B7.out];unfold xi;rw[A5.out,hM.out];exact zmq C3.out B6.out A9.out A4.out _ _ _
end Gf
end
section
open Go.RowKit
namespace Sm
open Co Gen Dn Gf
theorem Match.snd {J:Nat→T→Nat→Nat→Prop}{hs:List (Int × Int)}{ls:List (T × Int)}{p1 p2:Nat}(h:Match J hs ls p1 p2):hs.map Prod.snd=ls.map Prod.snd:=by
 induction h with
 |nil=>rfl
 |cons h1 h2 ih=>rw[List.map_cons,List.map_cons,ih]
theorem Match.mem {J:Nat→T→Nat→Nat→Prop}{hs:List (Int × Int)}{ls:List (T × Int)}{p1 p2:Nat}(h:Match J hs ls p1 p2):∀ x∈hs,∃(j:Nat) (t:T) (a b:Nat),x.1=(j:Int)∧J j t a b∧(t,x.2)∈ls:=by
 induction h with
 |nil=>intro x hx; cases hx
 |cons h1 h2 ih=>
  intro x hx;rcases List.mem_cons.1 hx with rfl|hx
  ·exact⟨_,_,_,_,rfl,h1,List.mem_cons_self ..⟩
  ·obtain⟨j,t,a,b,g1,g2,g3⟩:=ih x hx;exact⟨j,t,a,b,g1,g2,List.mem_cons_of_mem _ g3⟩
theorem zwj {sh:Bool}{t:T}(F:List Fd.Feed)(day:Int)(hR:Gen.right (eu sh t).code=true)(hx:t.letter=99)(hd:t.depth≤200):
  ∃ k hs a1 a2,Vm.run (eu sh t).code (Vm.env F day) 0 1000000 Vm.zeros Vm.st0=⟨hs,(den (Vm.env F day) t 1000000).2,k,false⟩∧Match (Jb sh (eu sh t)) hs (den (Vm.env F day) t 1000000).1 a1 a2∧a1≤(eu sh t).ins.length∧a2≤(eu sh t).ws.length:=by
 obtain⟨-,hw, -,hl, -⟩:=du hR;have hw:(eu sh t).ws.length≤250:=hw;have hl:(eu sh t).ins.length≤16384:=hl;obtain⟨k,hs,a1,a2,g1,g2,g3,g4,g5⟩:=zry hR (zrj F day) hx hd 1000000;have A0:=g2.length fun j t p1 p2 h=>h.one
 have:=g1 [] [] 0 (by omega) (by show 0+hs.length≤250; omega);rw[List.nil_append,List.nil_append,Nat.zero_add] at this;exact⟨k,hs,a1,a2,this,g2,g4,g5⟩
theorem zhh {t:T}{p:Int}(h:im t p=0):∃ sh,xi t p=(eu sh (t.rw p)).code∧(t.rw p).letter=99∧(t.rw p).depth≤200:=by
 unfold im at h;split at h
 ·rename_i hf;have A0:=zfo (p:=p) (wm hf);obtain⟨s1,s2⟩:=(sf _).1 A0.1;unfold xi;cases hs:mg t p with
  |true=>exact⟨true,rfl,A0.2.1,s2⟩
  |false=>exact⟨false,rfl,A0.2.1,s2⟩
 ·cases h
end Sm
end
end Go.Proofs.YtanlmbbalamgkaaGreatDoor
