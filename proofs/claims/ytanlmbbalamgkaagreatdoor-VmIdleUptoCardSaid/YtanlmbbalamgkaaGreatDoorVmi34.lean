/- Proved: lemmas and contracts of the functions that the law reaches, part 34 of 36: GfWait, GfMake, GfComp, SmIdle, GfFrom, GfShown, GfForms. Conditions: as each states. -/
import Derived.Test.YtanlmbbalamgkaaGreatDoorVmi28
import Derived.Test.YtanlmbbalamgkaaGreatDoorVmi29
import Derived.Test.YtanlmbbalamgkaaGreatDoorVmi31
import Derived.Test.YtanlmbbalamgkaaGreatDoorVmi33
namespace Go.Proofs.YtanlmbbalamgkaaGreatDoor
set_option linter.unusedVariables false
set_option linter.unusedSimpArgs false
section
open Go.RowKit
open Rw
set_option maxRecDepth 100000
attribute [local go_sem] zbj
namespace Gf
open Co Dn
theorem UnkAt.new {mb b:Nat}{W:World}(h:W.heap[b]? = some (.cells #[.slice none 0 0] 141 (0,0)))(hb:mb<b):UnkAt mb b [] W:=⟨⟨_,[],h,⟨rfl,.inl ⟨rfl,rfl⟩⟩,fun i p e=>by cases i<;>cases e⟩,hb⟩
theorem zqs {α:Type}:∀(l:List α) (i:Nat) (p:α),l[i]? = some p→l.take (i+1)=l.take i++[p]
 | [],_,_,h=>by cases h
 |x::r,0,p,h=>by simp at h; subst h; rfl
 |x::r,i+1,p,h=>by
  have:=zqs r i p (by simpa using h)
  rw[List.take_succ_cons,this]
  rfl
theorem ztj (m:Mk)(l:List Nat)(p:Nat):hereAll m (l++[p])=(hereAll m l).here p:=List.foldl_append
theorem zbh:∀(l:List Nat) (m:Mk),(hereAll m l).ins.length=m.ins.length
 | [],_=>rfl
 |p::r,m=>(zbh r (m.here p)).trans (zaf m p)
theorem zye {m:Mk}{j:Nat}{x:Gen.Wt}{f:Gen.Wt→Gen.Wt}(h:m.ws[j]? = some x)(e:f x=x):m.setW j f=m:=by
 have:m.ws.modify j f=m.ws:=by
  apply List.ext_getElem?
  intro i
  rw[List.getElem?_modify]
  by_cases hi:j=i
  ·subst hi
   rw[h]
   simp[e]
  ·simp[hi]
 unfold Mk.setW
 rw[this]
theorem qeq {m:Mk}{j:Nat}{x:Gen.Wt}{f f':Gen.Wt→Gen.Wt}(h:m.ws[j]? = some x)(e:f x=f' x):m.setW j f=m.setW j f':=by
 have:m.ws.modify j f=m.ws.modify j f':=by
  apply List.ext_getElem?
  intro i
  rw[List.getElem?_modify,List.getElem?_modify]
  by_cases hi:j=i
  ·subst hi
   rw[h]
   simp[e]
  ·simp[hi]
 unfold Mk.setW
 rw[this]
theorem qai {op n:Int}{s:ByteArray}{ks:List T}(h:(T.mk op n s ks).letter=99)(ho:op=29∨op=30∨op=31):0≤n∧n≤73048:=by
 obtain⟨-,hf⟩:=letter_inv h (by decide) (by omega)
 rcases ho with rfl|rfl|rfl
 ·exact zix (.inr (.inl rfl)) hf
 ·exact zix (.inr (.inr rfl)) hf
 ·simp[fields,Gen.within] at hf
  omega
def UnkV (mb:Nat)(vu:Value)(fs:List Value)(U:List Nat)(W:World):Prop:=W.ownsRow (mb+1) 1 1 vu U.length fs∧∀(i:Nat) p,U[i]? = some p→∃ f,fs[i]? = some f∧JumpFn mb W f p
theorem UnkV.kp {mb kb:Nat}{vu:Value}{fs:List Value}{U:List Nat}{W W':World}(h:UnkV mb vu fs U W)(k:KpG mb kb none W W'):UnkV mb vu fs U W':=by
 obtain⟨h2,h3⟩:=h
 refine⟨⟨h2.1,?_⟩,fun i p hp=>?_⟩
 ·rcases h2.2 with h5|⟨g,cap,cur,e1,e2,e3,e4⟩
  ·exact .inl h5
  ·exact .inr ⟨g,cap,cur,e1,e2,k.box (by omega) (fun u e=>by cases e) (by decide) (by decide) (by decide) e3,e4⟩
 ·obtain⟨f,hf,hj⟩:=h3 i p hp
  exact⟨f,hf,hj.kp k (fun u e=>by cases e)⟩
theorem qac {con:T→Mk→Mk}(r:Int)(t:T)(m:Mk)(hc:∀(t:T) (m:Mk),m.ws.length≤(con t m).ws.length∧m.ins.length≤(con t m).ins.length):m.ws.length≤(either con r t m).ws.length∧m.ins.length≤(either con r t m).ins.length:=by
 obtain⟨A,B,C,D,hA,hB,hC,hD,e⟩:=zba con r t m
 have h1:=hc (t.kid 1) A
 have h2:=hc (t.kid 2) C
 rw[←hB] at h1
 rw[←hD] at h2
 rw[e]
 have e1:A.ws.length=m.ws.length∧A.ins.length=m.ins.length+1:=by rw[hA]; exact⟨rfl,zae _ _⟩
 have e2:C.ws.length=B.ws.length∧C.ins.length=B.ins.length+1:=by rw[hC]; exact⟨rfl,by rw[zaf,zae,zai]⟩
 have e3:((D.back C.known).here (B.back A.known).ins.length).ws.length=D.ws.length∧((D.back C.known).here (B.back A.known).ins.length).ins.length=D.ins.length:=⟨rfl,by rw[zaf,zai]⟩
 omega
structure Mid (mb kb ub B j:Nat)(sh:Bool)(R:Mk)(cur:Array Value)(w W:World):Prop where
 out:∃ M U vw vi vj kb',R=again j M U∧MkAt mb sh M vw vi vj kb' W∧(kb'=kb∨w.heap.size≤kb')∧KpG mb kb (some ub) w W∧Own1 mb 4 B cur 104 W∧UnkO mb (some ub) U W∧M.ins.length≤700000∧U.length≤700000∧Within U M∧j<M.ws.length
set_option maxHeartbeats 16000000 in
theorem qbk (sh:Bool)(j:Nat)(op n:Int)(s:ByteArray)(ks:List T)(m:Mk)(k mb kb:Nat)(vw vi vj:Value)(q:Option Addr)(c:Nat)(w:World)(hx:(T.mk op n s ks).letter=99)(hwt:zax (.mk op n s ks)=true)(hd:(T.mk op n s ks).depth≤200)
  (hv:CoreAt mb w (.mk op n s ks) (.agg #[.int .i64 op,.int .i64 n,.string s,.slice q ks.length c])) (hm:MkAt mb sh m vw vi vj kb w) (hj:j<m.ws.length) (hf:Fit k m.fresh) (hk:k+8 * (T.mk op n s ks).size≤600000):
  Calls Tryz.prog 52 #[.pointer (some ⟨mb,0,none⟩),.agg #[.int .i64 j,.int .i64 op,.int .i64 n,.string s,.slice q ks.length c]] w (fun e w'=>(∃ r,e=.returned r)∧∃ u,w.heap.size≤u∧Lays mb kb (some u) sh (wait sh j (.mk op n s ks) m) w w'):=by
 have hv0:=hv
 obtain⟨q',c2,hve,hcc,hio,hin,hss,hkr⟩:=hv.open
 simp only[T.op,T.n,T.s,T.ks,Value.agg.injEq,Array.mk.injEq,List.cons.injEq,Value.slice.injEq,true_and,and_true] at hve
 obtain⟨rfl,rfl⟩:q=q'∧c=c2:=by first|exact⟨hve.1,hve.2⟩|(obtain⟨h1,h2⟩:=hve; exact⟨h1,h2⟩)
 have hdk:∀ x∈ks,x.depth≤200:=fun x hx=>by
  have:=zcy hx
  rw[T.depth] at hd
  omega
 have HKR:=hid' hkr
 have HDA:=hid' hdk
 have HX:=hid' hx
 have HWT:=hid' hwt
 have HI:=hid' (And.intro hio hin)
 have HCA:=hid' (fun (W:World) (b:Below mb w W)=>(hv0.kept b (Nat.le_refl _)))
 have B1:=(Below.refl w.heap.size w).alloc (Nat.le_refl _) (.cells #[.int .i64 j,.int .i64 op,.int .i64 n,.string s,.slice q ks.length c] 104)
 have y1:=heap_alloc_new w (.cells #[.int .i64 j,.int .i64 op,.int .i64 n,.string s,.slice q ks.length c] 104)
 have B2:=(Below.refl (w.heap.size+1) (w.alloc (.cells #[.int .i64 j,.int .i64 op,.int .i64 n,.string s,.slice q ks.length c] 104))).alloc (by simp) (.cells #[.int .i64 op,.int .i64 n,.string s,.slice q ks.length c] 24)
 have y2:=heap_alloc_new (w.alloc (.cells #[.int .i64 j,.int .i64 op,.int .i64 n,.string s,.slice q ks.length c] 104)) (.cells #[.int .i64 op,.int .i64 n,.string s,.slice q ks.length c] 24)
 simp only[World.size_alloc] at y2
 have z1:=(B2.block _ (by omega)).trans y1
 have BA:=B1.trans (B2.mono (by omega))
 have hjo:∀ k,vj.ownBlock=some k→k≠w.heap.size:=fun k e=>by
  obtain⟨J,e1,e2,e3⟩:=hm.rj
  have:=(zmu e2 _ e).2
  omega
 have HY:=hid' (And.intro y1 (hm.below B1))
 have HBX:=hid' ((Bx.nil mb _).cons y2 (by have:=hm.lt; omega) rfl)
 have HM:=hid' (hm.below BA)
 have HOJ:=hid' (Own1.newJob (hm.below BA) z1 hjo)
 have HB:=hid' BA
 have HKP:=hid' (KpG.of (mb:=mb) (kb:=kb) (ub:=none) BA (Nat.le_of_lt hm.lt))
 have HSZ:=hid' (And.intro hk (And.intro (show m.ins.length+m.ws.length+pend m.jobs≤k from hf.len) (And.intro hf.nx (And.intro (show m.puts≤k from hf.pt) hj))))
 have HF:=hid' hf
 have HMB:=hid' hm.lt
 clear B1 y1 B2 y2 z1 BA hm hv hv0 hkr hk hf hcc hx hwt hd hdk hj hjo hve hio hin hss
 go_enter Tryz.func52,Tryz.ntmps52
 go_upto_region 1 with(fail)
 have k0:=zaa HY.out.1 0 _ rfl
 have k1:=zaa HY.out.1 1 _ rfl
 have k2:=zaa HY.out.1 2 _ rfl
 have k3:=zaa HY.out.1 3 _ rfl
 have k4:=zaa HY.out.1 4 _ rfl
 clear HY
 go_upto_region 2 with(fail)
 clear k0 k1 k2 k3 k4
 obtain⟨B,hB⟩:∃ B,Hid (w.heap.size=B):=⟨_,hid' rfl⟩
 simp only[hB.out] at HBX HOJ ⊢
 generalize World.alloc _ _=w1 at *
 obtain⟨x,hx⟩:∃ x,m.ws[j]? = some x:=⟨_,List.getElem?_eq_getElem HSZ.out.2.2.2.2⟩
 have HXX:=hid' hx
 obtain⟨g,cw,hvw,hg,hmg,hwc,hwf⟩:=HM.out.wcell hx
 have HWC:=hid' (And.intro hg (And.intro hwc hwf))
 clear hg hwc hwf hx
 subst hvw
 have j1:(0:Int)≤(j:Int):=by omega
 have j2:(j:Int)<(m.ws.length:Int):=by have:=HSZ.out; omega
 have hF0:w1.drew.heap[mb]? = some (.cells #[.int .i64 m.regs,.slice (some ⟨g,0,none⟩) m.ws.length cw,vi,.bool sh,vj,.int .i64 m.next,.map (some kb),.bool m.over] 66 (0,0))∧w1.drew.heap[B]? = some (.cells #[.int .i64 j,.int .i64 op,.int .i64 n,.string s,.slice q ks.length c] 104 (0,0)):=⟨HM.out.box,HOJ.out.2.1⟩
 obtain⟨lw,hlw⟩:∃ lw,Hid (m.ws.length=lw):=⟨_,hid' rfl⟩
 rw[hlw.out] at hF0 j2
 refine zbu (fun W=>W.heap[mb]? = some (.cells #[.int .i64 m.regs,.slice (some ⟨g,0,none⟩) lw cw,vi,.bool sh,vj,.int .i64 m.next,.map (some kb),.bool m.over] 66 (0,0))∧W.heap[B]? = some (.cells #[.int .i64 j,.int .i64 op,.int .i64 n,.string s,.slice q ks.length c] 104 (0,0))) 9 [false,false,false,false,false,false,false,false,false] (by kernel_rfl) (by kernel_rfl) (by kernel_rfl) hF0 ?_
 iterate 9
  apply zbi
  ·rfl
  ·intro W hW
   have q1:=zaa hW.1 1 _ rfl
   have p0:=zaa hW.2 0 _ rfl
   first|(go_simp; done)|(go_simp; with_reducible rfl)
  simp only[Act.put,List.setIfInBounds_toArray,List.set_cons_zero,List.set_cons_succ]
 refine zcu ?_
 clear hF0 j1 j2
 have HM1:=hid' HM.out.drew
 have HBX1:=hid' (HBX.out.below (Below.refl _ w1).drew)
 have HOJ1:=hid' (HOJ.out.below (Below.refl _ w1).drew)
 have HK1:=hid' (HKP.out.trans HM.out.kd (.inl rfl))
 have HB1:=hid' HB.out.drew
 have hwc:=HWC.out.2.1
 have hwf:=HWC.out.2.2
 have HGO:=hid' HWC.out.1
 have q0:w1.drew.cell? ⟨g,j * 5,none⟩=some (.int .i64 x.entry):=hwc 0 _ rfl
 have q1:w1.drew.cell? ⟨g,j * 5+1,none⟩=some (.int .i64 x.day):=hwc 1 _ rfl
 have z0:w1.drew.frozen? ⟨g,j * 5,none⟩=false:=hwf (j * 5)
 obtain⟨pi,ci,hvi⟩:=zay HM1.out.ri
 subst hvi
 have m2:=zaa HM1.out.box 2 _ rfl
 clear hwc hwf HM HBX HOJ HKP HB HWC
 generalize w1.drew=w1d at *
 have hset:=HM1.out.setF (j:=j) (g:=g) (f:=0) (u:=.int .i64 m.ins.length) (fn:=fun w=>{ w with entry:=m.ins.length }) HSZ.out.2.2.2.2 HGO.out (by decide) (fun _=>rfl)
 have HM2:=hid' (show MkAt mb sh (m.setW j fun w=>{ w with entry:=m.ins.length }) (.slice (some ⟨g,0,none⟩) m.ws.length cw) (.slice pi m.ins.length ci) vj kb (w1d.setCell ⟨g,j * 5,none⟩ (.int .i64 m.ins.length)) from hset.1)
 have HK2:=hid' (show KpG mb kb none w (w1d.setCell ⟨g,j * 5,none⟩ (.int .i64 m.ins.length)) from HK1.out.trans hset.2 (.inl rfl))
 have HBX2:=hid' (show Bx mb [(B+1,#[.int .i64 op,.int .i64 n,.string s,.slice q ks.length c],24)] (w1d.setCell ⟨g,j * 5,none⟩ (.int .i64 m.ins.length)) from HBX1.out.kp hset.2 (u:=[]) zag)
 have HOJ2:=hid' (show Own1 mb 4 B #[.int .i64 j,.int .i64 op,.int .i64 n,.string s,.slice q ks.length c] 104 (w1d.setCell ⟨g,j * 5,none⟩ (.int .i64 m.ins.length)) from HOJ1.out.kp hset.2)
 clear hset HM1 HBX1 HOJ1 HK1 HB1 q1
 go_upto_region 4 with(fail)
 clear q0 z0 m2
 generalize World.setCell _ _ _=w2 at *
 have hmm:=@run_makeMap Tryz.prog
 have BM:=(Below.refl w2.heap.size w2).alloc (Nat.le_refl _) (.map #[] 0)
 have hMA:=HM2.out.below BM
 have s1:=heap_setCell_same (w2.alloc (.map #[] 0)) mb 5 _ _ (.int .i64 0) hMA.box
 have fz5:=frozen_of (o:=5) hMA.box
 have fz6:=frozen_of (o:=6) s1
 have m5:=zaa hMA.box 5 _ rfl
 have m6:=zaa s1 6 _ rfl
 have p1:=hMA.parts (m':={ (m.setW j fun w=>{ w with entry:=m.ins.length }) with next:=0 }) 5 (.int .i64 0) rfl rfl rfl rfl rfl rfl
 have kn2:=(Kn.made w2).kept (grown_set (w2.alloc (.map #[] 0)) mb 5 (.int .i64 0)) (fun e=>by have:=HM2.out.lt; cases e; omega)
 have HM3:=hid' (show MkAt mb sh (waitIn j m) _ _ _ w2.heap.size _ from MkAt.reset (m':=waitIn j m) (kb':=w2.heap.size) 6 (.map (some w2.heap.size)) p1.1.box rfl p1.1.rw p1.1.ri p1.1.rj ⟨0,Nat.zero_le _,kn2⟩ HM2.out.lt)
 have kp3:=((KpG.of (mb:=mb) (kb:=kb) (ub:=none) BM (Nat.le_of_lt HM2.out.lt)).trans p1.2 (.inl rfl)).trans (zmh (kb:=kb) (ub:=none) 6 (.map (some w2.heap.size)) p1.1.box (by rintro _ (rfl|rfl)<;>rfl)) (.inl rfl)
 have HBX3:=hid' (HBX2.out.kp kp3 (u:=[]) zag)
 have HOJ3:=hid' (HOJ2.out.kp kp3)
 have HK3:=hid' (show(w2.heap.size=kb∨w.heap.size≤w2.heap.size)∧KpG mb kb none w _ from⟨.inr HK2.out.bel.size,HK2.out.trans kp3 (.inl rfl)⟩)
 clear p1 kn2 kp3 hMA BM HM2 HBX2 HOJ2 HK2
 go_upto_region 5 with(fail)
 clear m5 m6 s1 fz5 fz6 hmm
 generalize World.setCell _ _ _=w3 at *
 obtain⟨kb3,hkb3⟩:∃ kb3,Hid (w2.heap.size=kb3):=⟨_,hid' rfl⟩
 rw[hkb3.out] at HM3 HK3
 go_upto_region 6 with(fail)
 have BN:=(Below.refl w3.heap.size w3).alloc (Nat.le_refl _) (.cells #[.slice none 0 0] 141)
 have yn:=heap_alloc_new w3 (.cells #[.slice none 0 0] 141)
 have HM4:=hid' (HM3.out.below BN)
 have HBX4:=hid' (HBX3.out.below BN)
 have HOJ4:=hid' (HOJ3.out.below BN)
 have HK4:=hid' (show(kb3=kb∨w.heap.size≤kb3)∧KpG mb kb (some w3.heap.size) w _ from⟨HK3.out.1,(HK3.out.2.trans (KpG.of BN (Nat.le_of_lt HM3.out.lt)) HK3.out.1).wk⟩)
 have HUN4:=hid' (show UnkO mb (some w3.heap.size) [] _ from fun b e=>by cases e; exact UnkAt.new yn HM3.out.lt)
 have HUB:=hid' (show w.heap.size≤w3.heap.size from HK3.out.2.bel.size)
 obtain⟨ub,hub⟩:∃ ub,Hid (w3.heap.size=ub):=⟨_,hid' rfl⟩
 rw[hub.out] at HK4 HUN4 HUB ⊢
 clear HM3 HBX3 HOJ3 HK3 BN yn
 generalize World.alloc _ _=w4 at *
 have HF0:=hid' (show Fit k (waitIn j m) from(HF.out.setW j _).fresh)
 have HLN4:=hid' (show(waitIn j m).ins.length≤700000 by have:=HSZ.out; show m.ins.length≤_; omega)
 have c0:=zaa (HBX4.out.at' _ (.head _)) 0 _ rfl
 simp only at c0
 go_upto_block 0 with(fail)
 go_cut [39] (fun bb wx=>True∧Mid mb kb ub B j sh (wait sh j (T.mk op n s ks) m) #[.int .i64 j,.int .i64 op,.int .i64 n,.string s,.slice q ks.length c] w wx)
 case first=>
  clear c0
  rcases zbm HX.out with(⟨rfl,hks⟩|⟨rfl,hks⟩)|⟨h1,a,hks,ha⟩|⟨rfl,o,a,hks,ho,ha⟩|⟨h1,a,b,hks,ha,hb⟩|⟨rfl,o,a,b,hks,ho,ha,hb⟩|⟨rfl,o,a,hks,ho,ha⟩
  ·have h:=HWT.out; rw[zbb (by omega)] at h; cases h
  ·have h:=HWT.out; rw[zbb (by omega)] at h; cases h
  ·rcases h1 with rfl|rfl
   ·have h:=HWT.out; rw[zbb (by omega)] at h; cases h
   ·have HKS:=hid' hks
    have HZZ:=hid' (show(T.mk 29 n s ks).size=1+(a.size) by rw[T.size,hks]; simp[sizes])
    have HKI0:=hid' (show(T.mk 29 n s ks).ks[0]? = some a by show ks[0]? = some a; rw[hks]; rfl)
    obtain⟨cb,off,_,_,_,_,_,_,hq,hcb, -⟩:=zbq (t:=.mk 29 n s ks) HKR.out HKI0.out
    subst hq
    have HCB:=hid' hcb
    clear hcb
    clear hks
    have c0:=zaa (HBX4.out.at' _ (.head _)) 0 _ rfl
    have c1:=zaa (HBX4.out.at' _ (.head _)) 1 _ rfl
    have c2:=zaa (HBX4.out.at' _ (.head _)) 2 _ rfl
    have c3:=zaa (HBX4.out.at' _ (.head _)) 3 _ rfl
    simp only at c0 c1 c2 c3
    have HXa:=hid' ha
    have HF5:=hid' (show Fit k ((waitIn j m).setW j fun w=>{ w with day:=n }) from HF0.out.setW j _)
    have HF6:=hid' (HF5.out.lay (ix 22 0 0 n))
    have HFC:=hid' (zav sh 200 a _ _ ha HF6.out)
    have HPC:=hid' (zhq sh 200 a (((waitIn j m).setW j fun w=>{ w with day:=n }).lay (ix 22 0 0 n)))
    obtain⟨C,hC⟩:∃ C,Hid (con sh 200 a (((waitIn j m).setW j fun w=>{ w with day:=n }).lay (ix 22 0 0 n))=C):=⟨_,hid' rfl⟩
    rw[hC.out] at HFC HPC
    have HE:=hid' (show wait sh j (T.mk 29 n s ks) m=again j C [(waitIn j m).ins.length] by rw[zeu rfl,show(T.mk 29 n s ks).kid 0=a by rw[HKS.out]; rfl]; exact congrArg (fun x=>again j x _) hC.out)
    clear ha
    have hx5:(waitIn j m).ws[j]? = some { x with entry:=m.ins.length }:=zvt _ HXX.out
    obtain⟨g',cw',hvw',hg', -,hwc',hwf'⟩:=HM4.out.wcell hx5
    obtain rfl:g=g':=Option.some.inj hg'
    have q1:w4.cell? ⟨g,j * 5+1,none⟩=some (.int .i64 x.day):=hwc' 1 _ rfl
    have z1:=hwf' (j * 5+1)
    have hset:=HM4.out.setF (j:=j) (g:=g) (f:=1) (u:=.int .i64 n) (fn:=fun w=>{ w with day:=n }) (List.getElem?_eq_some_iff.1 hx5).1 hg' (by decide) (fun _=>rfl)
    have HM5:=hid' hset.1
    have HK5:=hid' (And.intro HK4.out.1 (HK4.out.2.trans hset.2.wk HK4.out.1))
    have HBX5:=hid' (HBX4.out.kp hset.2 (u:=[]) zag)
    have HOJ5:=hid' (HOJ4.out.kp hset.2)
    have HUN5:=hid' (HUN4.out.kp hset.2)
    clear hset hwc' hwf' hvw' hg' hx5
    go_upto_region 9 with(fail)
    clear q1 z1 HM4 HK4 HBX4 HOJ4 HUN4 c0 c1 c2 c3
    generalize World.setCell _ _ _=w5 at *
    have c0:=zaa (HBX5.out.at' _ (.head _)) 0 _ rfl
    have c1:=zaa (HBX5.out.at' _ (.head _)) 1 _ rfl
    have c2:=zaa (HBX5.out.at' _ (.head _)) 2 _ rfl
    have c3:=zaa (HBX5.out.at' _ (.head _)) 3 _ rfl
    simp only at c0 c1 c2 c3
    have HLN5:=hid' (show((waitIn j m).setW j fun w=>{ w with day:=n }).ins.length≤700000 from HLN4.out)
    obtain⟨⟨vu,fs,u1,u2,u3⟩,u4⟩:=HUN5.out ub rfl
    have HU:=hid' (And.intro u1 (And.intro u2 (And.intro u3 u4)))
    clear u1 u2 u3 u4
    have hF0:w5.drew.heap[ub]? = some (.cells #[vu] 141 (0,0))∧w5.drew.heap[B+1]? = some (.cells #[.int .i64 29,.int .i64 n,.string s,.slice (some ⟨cb,off,none⟩) ks.length c] 24 (0,0)):=⟨HU.out.1,HBX5.out.at' _ (.head _)⟩
    have HF0:=hid' hF0
    have HUL:=hid' (show(([]:List Nat)).length≤700000 by exact Nat.zero_le _)
    go_upto_region 9 with(fail)
    clear c0 c1 c2 c3
    refine zbu (fun W=>W.heap[ub]? = some (.cells #[vu] 141 (0,0))∧W.heap[B+1]? = some (.cells #[.int .i64 29,.int .i64 n,.string s,.slice (some ⟨cb,off,none⟩) ks.length c] 24 (0,0))) 8 [false,false,false,false,true,true,true,true,true] (by kernel_rfl) (by kernel_rfl) (by kernel_rfl) hF0 ?_
    clear hF0
    iterate 4
     apply zbi
     ·rfl
     ·intro W hW
      have p0:=zaa hW.1 0 _ rfl
      have p1:=zaa hW.2 1 _ rfl
      first|(go_simp; done)|(go_simp; with_reducible rfl)
     simp only[Act.put,List.setIfInBounds_toArray,List.set_cons_zero,List.set_cons_succ]
    have hml:=HM5.out.drew
    refine zbg (v:=.agg #[.int .i64 22,.int .i64 0,.int .i64 0,.int .i64 0,.int .i64 n,.string ⟨#[]⟩,.int .i64 0]) (w':=w5.drew) ?_ ?_ ?_ ?_
    ·rfl
    ·first|(go_simp; done)|(go_simp; with_reducible rfl)
    ·exact .inr HF0.out
    simp only[Act.put,List.setIfInBounds_toArray,List.set_cons_zero,List.set_cons_succ]
    refine zdt 106 #[.pointer (some ⟨mb,0,none⟩),.agg #[.int .i64 22,.int .i64 0,.int .i64 0,.int .i64 0,.int .i64 n,.string ⟨#[]⟩,.int .i64 0]] (fun f w'=>JumpFn mb w' f ((waitIn j m).setW j fun w=>{ w with day:=n }).ins.length∧Lays mb kb3 none sh (((waitIn j m).setW j fun w=>{ w with day:=n }).lay (ix 22 0 0 n)) w5.drew w') ?_ ?_ ?_ ?_
    ·rfl
    ·go_simp
    ·refine(zcp mb kb3 sh ((waitIn j m).setW j fun w=>{ w with day:=n }) (.slice (some ⟨g,0,none⟩) m.ws.length cw) (.slice pi m.ins.length ci) vj (ix 22 0 0 n) w5.drew hml (by have:=HLN5.out; omega)).mono ?_
     rintro e w' ⟨f,h1,h2,h3⟩
     exact⟨f,h1,h2,h3⟩
    rintro f wA ⟨⟨jb1,jb2,rfl,hjr⟩,hly⟩
    have hjf:JumpFn mb wA (.func (.func 150) #[] #[.pointer (some ⟨jb1,0,none⟩),.pointer (some ⟨jb2,0,none⟩)]) ((waitIn j m).setW j fun w=>{ w with day:=n }).ins.length:=⟨jb1,jb2,rfl,hjr⟩
    have HLA:=hid' hly
    have hb4:=hly.box (k:=ub) (by have:=HU.out.2.2.2; omega) (by decide) (by decide) (by decide) HF0.out.1
    have hc4:=hly.box (k:=B+1) (by have:=(HBX5.out.ok _ (.head _)).1; simp only at this; omega) (by decide) (by decide) (by decide) HF0.out.2
    have hrow4:wA.ownsRow (mb+1) 1 1 vu (([]:List Nat)).length fs:=by
     refine⟨HU.out.2.1.1,?_⟩
     rcases HU.out.2.1.2 with h5|⟨g,cap,cur,e1,e2,e3,e4⟩
     ·exact .inl h5
     ·exact .inr ⟨g,cap,cur,e1,e2,hly.box (k:=g) (by omega) (by decide) (by decide) (by decide) e3,e4⟩
    have hj4:∀(i:Nat) p,(([]:List Nat))[i]? = some p→∃ f,fs[i]? = some f∧JumpFn mb wA f p:=fun i p hp=>by
     obtain⟨f',h1,h2⟩:=HU.out.2.2.1 i p hp
     exact⟨f',h1,(h2.below (Below.refl _ w5).drew).kp hly.kp (fun u e=>by cases e)⟩
    have HOJA:=hid' ((HOJ5.out.below (Below.refl _ w5).drew).kp hly.kp)
    have HBXA:=hid' ((HBX5.out.below (Below.refl _ w5).drew).kp hly.kp (u:=[]) zag)
    obtain⟨vwA,viA,vjA,kbA,mA,hkA⟩:=KpG.next (show(kb3=kb∨w.heap.size≤kb3)∧KpG mb kb (some ub) w w5.drew from⟨HK5.out.1,HK5.out.2.trans HM5.out.kd HK5.out.1⟩) hly.wk
    have HMA:=hid' mA
    have HKA:=hid' hkA
    refine⟨.inr ⟨hb4,hc4⟩,?_⟩
    clear mA hkA hly hml HLA HU HF0 HM5 HK5 HBX5 HOJ5 HUN5
    simp only[Act.put,List.setIfInBounds_toArray,List.set_cons_zero,List.set_cons_succ]
    have hba:=(Below.refl wA.heap.size wA).alloc (Nat.le_refl _) (.cells #[(.func (.func 150) #[] #[.pointer (some ⟨jb1,0,none⟩),.pointer (some ⟨jb2,0,none⟩)])] 1)
    have hnn:=heap_alloc_new wA (.cells #[(.func (.func 150) #[] #[.pointer (some ⟨jb1,0,none⟩),.pointer (some ⟨jb2,0,none⟩)])] 1)
    have hb5:=zad hba hb4
    have hc5:=zad hba hc4
    refine zbg (v:=.slice (some ⟨wA.heap.size,0,none⟩) 1 1) (w':=wA.alloc (.cells #[(.func (.func 150) #[] #[.pointer (some ⟨jb1,0,none⟩),.pointer (some ⟨jb2,0,none⟩)])] 1)) ?_ ?_ ?_ ?_
    ·rfl
    ·first|(go_simp; done)|(go_simp; with_reducible rfl)
    ·exact .inr ⟨hb5,hc5⟩
    simp only[Act.put,List.setIfInBounds_toArray,List.set_cons_zero,List.set_cons_succ]
    have hj5:∀(i:Nat) p,(([]:List Nat))[i]? = some p→∃ f',fs[i]? = some f'∧JumpFn mb (wA.alloc (.cells #[(.func (.func 150) #[] #[.pointer (some ⟨jb1,0,none⟩),.pointer (some ⟨jb2,0,none⟩)])] 1)) f' p:=fun i p hp=>by
     obtain⟨f',h1,h2⟩:=hj4 i p hp
     exact⟨f',h1,h2.below hba⟩
    have hjf5:=hjf.below hba
    have HMB5:=hid' (HMA.out.below hba)
    have HKB5:=hid' (show(kbA=kb∨w.heap.size≤kbA)∧KpG mb kb (some ub) w _ from⟨HKA.out.1,HKA.out.2.trans (KpG.of hba (Nat.le_of_lt HMA.out.lt)) HKA.out.1⟩)
    have HOJ5:=hid' (HOJA.out.below hba)
    have HBX5:=hid' (HBXA.out.below hba)
    have hlt5:mb<(wA.alloc (.cells #[(.func (.func 150) #[] #[.pointer (some ⟨jb1,0,none⟩),.pointer (some ⟨jb2,0,none⟩)])] 1)).heap.size:=HMB5.out.lt
    have hrow5:=World.ownsRow.alloc hrow4 (.cells #[(.func (.func 150) #[] #[.pointer (some ⟨jb1,0,none⟩),.pointer (some ⟨jb2,0,none⟩)])] 1)
    have HUBM:=hid' (show mb<ub by have:=HUB.out; have:=HMB.out; omega)
    obtain⟨wAs,hwAs⟩:∃ k,wA.heap.size=k:=⟨_,rfl⟩
    rw[hwAs] at hnn ⊢
    clear hba hb4 hc4 hj4 hrow4 hwAs HMA HKA HOJA HBXA hjf
    generalize World.alloc wA _=wB at *
    obtain⟨ti,ti1,ti2,ti3,ti4⟩:=info_split znb
    have hul:=HUL.out
    refine zef _ _ 141 rfl rfl (mb+1) 1 ti _ 1 8 Tryz.underlying141 ti1 ti2 ti3 ti4 rfl (by decide) vu _ _ rfl hrow5 ⟨wAs,0,none⟩ 1 1 [(.func (.func 150) #[] #[.pointer (some ⟨jb1,0,none⟩),.pointer (some ⟨jb2,0,none⟩)])] rfl rfl
     (fun j y hj=>?_) (fun y hy=>?_) (by decide) (by unfold maxLen; omega) (by omega) (by omega) (fun gq cap wC hown hgr hat hlt=>?_)
    ·rw[add_gen,Nat.zero_add]
     unfold World.cell?
     simp only[hnn]
     simpa using hj
    ·simp only[List.mem_cons,List.not_mem_nil,or_false] at hy
     subst hy
     rfl
    have hpush:=UnkAt.push (W:=wB) HUBM.out hb5 hrow5 hj5 hjf5 hown hgr
    have hkk:=zia (v:=.slice (some ⟨gq,0,none⟩) ((([]:List Nat)).length+1) cap) HMB5.out HUBM.out hb5 hpush.2 hrow5 hgr
    have HM6:=hid' hkk.1
    have HK6:=hid' (show(kbA=kb∨w.heap.size≤kbA)∧KpG mb kb (some ub) w _ from⟨HKB5.out.1,HKB5.out.2.trans hkk.2 HKB5.out.1⟩)
    have HOJ6:=hid' (HOJ5.out.kp hkk.2)
    have hub5:UnkO mb (some ub) (([]:List Nat)) wB:=fun b e=>by cases e; exact⟨⟨vu,fs,hb5,hrow5,hj5⟩,HUBM.out⟩
    have HBX6:=hid' (HBX5.out.kp hkk.2 hub5)
    have HUN6:=hid' (show UnkO mb (some ub) ((([]:List Nat))++[((waitIn j m).setW j fun w=>{ w with day:=n }).ins.length]) _ from fun b e=>by cases e; exact hpush.1)
    have hfact:wC.heap[ub]? = some (.cells #[vu] 141 (0,0))∧wC.heap[B+1]? = some (.cells #[.int .i64 29,.int .i64 n,.string s,.slice (some ⟨cb,off,none⟩) ks.length c] 24 (0,0)):=⟨hpush.2,by
     have hne:vu.ownBlock≠some (B+1):=fun e=>by
      obtain⟨-,cur,e2⟩:=zbz hrow5 e
      rw[hc5] at e2
      simp at e2
     exact(hgr.block (B+1) (zac hc5) (fun e=>hne e.symm)).trans hc5⟩
    have f0:=frozen_of (o:=0) hpush.2
    have k0:=zaa hpush.2 0 _ rfl
    refine⟨.inr hfact,?_⟩
    simp only[Act.put,List.setIfInBounds_toArray,List.set_cons_zero,List.set_cons_succ]
    refine zdm (w':=wC.setCell ⟨ub,0,none⟩ (.slice (some ⟨gq,0,none⟩) ((([]:List Nat)).length+1) cap)) ?_ ?_ ?_ ?_
    ·rfl
    ·go_simp
    ·exact .inl (Nat.le_refl _)
    refine zcu ?_
    clear hpush hkk hub5 hown hgr hat hlt hrow5 hj5 hjf5 hb5 hc5 HMB5 HKB5 HOJ5 HBX5 f0 k0 hfact hnn
    generalize World.setCell _ _ _=w6 at *
    obtain⟨vw6,hvw6⟩:∃ v,v=vwA:=⟨_,rfl⟩
    obtain⟨vi6,hvi6⟩:∃ v,v=viA:=⟨_,rfl⟩
    obtain⟨vj6,hvj6⟩:∃ v,v=vjA:=⟨_,rfl⟩
    obtain⟨kb6,hkb6⟩:∃ v,v=kbA:=⟨_,rfl⟩
    rw[←hvw6,←hvi6,←hvj6,←hkb6] at HM6
    rw[←hkb6] at HK6
    clear hvw6 hvi6 hvj6 hkb6
    have c0:=zaa (HBX6.out.at' _ (.head _)) 0 _ rfl
    have c1:=zaa (HBX6.out.at' _ (.head _)) 1 _ rfl
    have c2:=zaa (HBX6.out.at' _ (.head _)) 2 _ rfl
    have c3:=zaa (HBX6.out.at' _ (.head _)) 3 _ rfl
    simp only at c0 c1 c2 c3
    obtain⟨kop,kn,kst,pk,kl,ck,hvk,r0,r1,r2,r3⟩:=zcn (t:=.mk 29 n s ks) (zaw HKR.out HK6.out.2.bel) (i:=0) HKI0.out
    simp only[Nat.zero_mul,Nat.add_zero,Nat.one_mul,Nat.reduceMul] at r0 r1 r2 r3
    have j2:(0:Int)<(ks.length:Int):=by have:=congrArg List.length HKS.out; simp at this; omega
    have j5:ks≠[]:=by rw[HKS.out]; simp
    have j3:0<ks.length:=List.length_pos_iff.2 j5
    have HC:=hid' (zhr sh 200 a (((waitIn j m).setW j fun w=>{ w with day:=n }).lay (ix 22 0 0 n)) _ mb kb6 vw6 vi6 vj6 _ w6 HXa.out (HDA.out a (by rw[HKS.out]; simp)) hvk HM6.out HF6.out (by have:=HSZ.out; have:=HZZ.out; omega))
    rw[hC.out] at HC
    clear hvk
    go_wp2_with fail
    refine HC.out.mono ?_
    rintro e w7 ⟨⟨r7,rfl⟩,hl7⟩
    clear HC
    have HBX7:=hid' (HBX6.out.kp hl7.kp (u:=[]) zag)
    have HUN7:=hid' (HUN6.out.kp hl7.kp)
    have HOJ7:=hid' (HOJ6.out.kp hl7.kp)
    obtain⟨vw7,vi7,vj7,kb7,m7,hk7⟩:=KpG.next HK6.out hl7.wk
    have HM7:=hid' m7
    have HK7:=hid' hk7
    clear hl7 m7 hk7 HM6 HK6 HBX6 HOJ6 HUN6 c0 c1 c2 c3 r0 r1 r2 r3 j2 j3 j5
    have c0:=zaa (HBX7.out.at' _ (.head _)) 0 _ rfl
    have c1:=zaa (HBX7.out.at' _ (.head _)) 1 _ rfl
    have c2:=zaa (HBX7.out.at' _ (.head _)) 2 _ rfl
    have c3:=zaa (HBX7.out.at' _ (.head _)) 3 _ rfl
    simp only at c0 c1 c2 c3
    go_wp2_with fail
    go_meet
    refine⟨trivial,⟨C,_,_,_,_,_,HE.out,HM7.out,HK7.out.1,HK7.out.2,HOJ7.out,HUN7.out,(by have:=HFC.out.len; have:=HSZ.out; have:=HZZ.out; omega),(by simp),(fun p hp=>by rw[List.mem_singleton] at hp; subst hp; have:=HPC.out.2; rw[zae] at this; exact this),(by have h1:=HPC.out.1; have h2:=HSZ.out.2.2.2.2; have h3:(((waitIn j m).setW j fun w=>{ w with day:=n }).lay (ix 22 0 0 n)).ws.length=m.ws.length:=(by simp[Mk.lay,Mk.setW,waitIn,Mk.fresh]); omega)⟩⟩
  ·have HKS:=hid' hks
   have HZZ:=hid' (show(T.mk 26 n s ks).size=1+(o.size+(a.size)) by rw[T.size,hks]; simp[sizes])
   have HKI0:=hid' (show(T.mk 26 n s ks).ks[0]? = some o by show ks[0]? = some o; rw[hks]; rfl)
   have HKI1:=hid' (show(T.mk 26 n s ks).ks[1]? = some a by show ks[1]? = some a; rw[hks]; rfl)
   obtain⟨cb,off,_,_,_,_,_,_,hq,hcb, -⟩:=zbq (t:=.mk 26 n s ks) HKR.out HKI0.out
   subst hq
   have HCB:=hid' hcb
   clear hcb
   clear hks
   have c0:=zaa (HBX4.out.at' _ (.head _)) 0 _ rfl
   have c1:=zaa (HBX4.out.at' _ (.head _)) 1 _ rfl
   have c2:=zaa (HBX4.out.at' _ (.head _)) 2 _ rfl
   have c3:=zaa (HBX4.out.at' _ (.head _)) 3 _ rfl
   simp only at c0 c1 c2 c3
   have HXa:=hid' ha
   have HOb:=hid' (zaz ho)
   have HFO:=hid' (zat sh 200 o _ [] _ (zaz ho) HF0.out)
   have HUO:=hid' (zfl sh 200 o (waitIn j m) [] (fun p hp=>by cases hp))
   have HWO:=hid' (zlx sh 200 o (waitIn j m) [])
   obtain⟨O,hO⟩:∃ O,Hid (obs sh 200 o (waitIn j m) []=O):=⟨_,hid' rfl⟩
   rw[hO.out] at HFO HUO HWO
   have HF8:=hid' (HFO.out.m.lay (ix 23 0 O.1 0))
   have HFC:=hid' (zav sh 200 a _ _ ha HF8.out)
   have HPC:=hid' (zhq sh 200 a (O.2.1.lay (ix 23 0 O.1 0)))
   obtain⟨C,hC⟩:∃ C,Hid (con sh 200 a (O.2.1.lay (ix 23 0 O.1 0))=C):=⟨_,hid' rfl⟩
   rw[hC.out] at HFC HPC
   have HE:=hid' (show wait sh j (T.mk 26 n s ks) m=again j C O.2.2 by rw[zdf rfl,show(T.mk 26 n s ks).kid 0=o by rw[HKS.out]; rfl,show(T.mk 26 n s ks).kid 1=a by rw[HKS.out]; rfl,hO.out,hC.out])
   clear ha ho
   obtain⟨kop,kn,kst,pk,kl,ck,hvk,r0,r1,r2,r3⟩:=zcn (t:=.mk 26 n s ks) (zaw HKR.out HK4.out.2.bel) (i:=0) HKI0.out
   simp only[Nat.zero_mul,Nat.add_zero,Nat.one_mul,Nat.reduceMul] at r0 r1 r2 r3
   have j2:(0:Int)<(ks.length:Int):=by have:=congrArg List.length HKS.out; simp at this; omega
   have j5:ks≠[]:=by rw[HKS.out]; simp
   have j3:0<ks.length:=List.length_pos_iff.2 j5
   have HC:=hid' (zju sh 200 o (waitIn j m) [] _ mb kb3 (some ub) (.slice (some ⟨g,0,none⟩) m.ws.length cw) (.slice pi m.ins.length ci) vj _ w4 HOb.out (HDA.out o (by rw[HKS.out]; simp)) hvk HM4.out HUN4.out (fun e=>by cases e) HF0.out (by have:=HSZ.out; have:=HZZ.out; omega) (by have:=HSZ.out; have:=HZZ.out; show 0+8 * _≤_; omega))
   rw[show uptr (some ub)=Value.pointer (some ⟨ub,0,none⟩) from rfl,hO.out] at HC
   clear hvk
   go_wp2_with fail
   refine HC.out.mono ?_
   rintro e w5 ⟨rfl,hl5,hu5⟩
   have HUN5:=hid' hu5
   clear HC hu5
   have HBX5:=hid' (HBX4.out.kp hl5.kp HUN4.out)
   have HOJ5:=hid' (HOJ4.out.kp hl5.kp)
   obtain⟨vw5,vi5,vj5,kb5,m5,hk5⟩:=KpG.next HK4.out hl5
   have HM5:=hid' m5
   have HK5:=hid' hk5
   clear hl5 m5 hk5 HM4 HK4 HBX4 HOJ4 HUN4 c0 c1 c2 c3 r0 r1 r2 r3 j2 j3 j5
   have c0:=zaa (HBX5.out.at' _ (.head _)) 0 _ rfl
   have c1:=zaa (HBX5.out.at' _ (.head _)) 1 _ rfl
   have c2:=zaa (HBX5.out.at' _ (.head _)) 2 _ rfl
   have c3:=zaa (HBX5.out.at' _ (.head _)) 3 _ rfl
   simp only at c0 c1 c2 c3
   have HLY:=hid' (zdc mb kb5 sh (O.2.1) vw5 vi5 vj5 (ix 23 0 O.1 0) w5 HM5.out (by have:=HFO.out.m.len; have:=HSZ.out; have:=HZZ.out; omega))
   try unfold ix at HLY
   try unfold txt0 at HLY
   go_wp2_with fail
   refine HLY.out.mono ?_
   rintro e w6 ⟨rfl,hl6⟩
   clear HLY
   have HBX6:=hid' (HBX5.out.kp hl6.kp (u:=[]) zag)
   have HUN6:=hid' (HUN5.out.kp hl6.kp)
   have HOJ6:=hid' (HOJ5.out.kp hl6.kp)
   obtain⟨vw6,vi6,vj6,kb6,m6,hk6⟩:=KpG.next HK5.out hl6.wk
   have HM6:=hid' m6
   have HK6:=hid' hk6
   clear hl6 m6 hk6 HM5 HK5 HBX5 HOJ5 HUN5 c0 c1 c2 c3
   have c0:=zaa (HBX6.out.at' _ (.head _)) 0 _ rfl
   have c1:=zaa (HBX6.out.at' _ (.head _)) 1 _ rfl
   have c2:=zaa (HBX6.out.at' _ (.head _)) 2 _ rfl
   have c3:=zaa (HBX6.out.at' _ (.head _)) 3 _ rfl
   simp only at c0 c1 c2 c3
   obtain⟨kop,kn,kst,pk,kl,ck,hvk,r0,r1,r2,r3⟩:=zcn (t:=.mk 26 n s ks) (zaw HKR.out HK6.out.2.bel) (i:=1) HKI1.out
   simp only[Nat.zero_mul,Nat.add_zero,Nat.one_mul,Nat.reduceMul] at r0 r1 r2 r3
   have j2:(1:Int)<(ks.length:Int):=by have:=congrArg List.length HKS.out; simp at this; omega
   have HC:=hid' (zhr sh 200 a (O.2.1.lay (ix 23 0 O.1 0)) _ mb kb6 vw6 vi6 vj6 _ w6 HXa.out (HDA.out a (by rw[HKS.out]; simp)) hvk HM6.out HF8.out (by have:=HSZ.out; have:=HZZ.out; omega))
   rw[hC.out] at HC
   clear hvk
   go_wp2_with fail
   refine HC.out.mono ?_
   rintro e w7 ⟨⟨r7,rfl⟩,hl7⟩
   clear HC
   have HBX7:=hid' (HBX6.out.kp hl7.kp (u:=[]) zag)
   have HUN7:=hid' (HUN6.out.kp hl7.kp)
   have HOJ7:=hid' (HOJ6.out.kp hl7.kp)
   obtain⟨vw7,vi7,vj7,kb7,m7,hk7⟩:=KpG.next HK6.out hl7.wk
   have HM7:=hid' m7
   have HK7:=hid' hk7
   clear hl7 m7 hk7 HM6 HK6 HBX6 HOJ6 HUN6 c0 c1 c2 c3 r0 r1 r2 r3 j2
   have c0:=zaa (HBX7.out.at' _ (.head _)) 0 _ rfl
   have c1:=zaa (HBX7.out.at' _ (.head _)) 1 _ rfl
   have c2:=zaa (HBX7.out.at' _ (.head _)) 2 _ rfl
   have c3:=zaa (HBX7.out.at' _ (.head _)) 3 _ rfl
   simp only at c0 c1 c2 c3
   go_wp2_with fail
   go_meet
   refine⟨trivial,⟨C,_,_,_,_,_,HE.out,HM7.out,HK7.out.1,HK7.out.2,HOJ7.out,HUN7.out,(by have:=HFC.out.len; have:=HSZ.out; have:=HZZ.out; omega),(by have:=HFO.out.u; have:=HSZ.out; have:=HZZ.out; have h:([]:List Nat).length=0:=rfl; omega),(HUO.out.more (by have h:=HPC.out.2; rw[zae] at h; omega)),(by have h1:=HPC.out.1; have h2:=HWO.out; have h3:=HSZ.out.2.2.2.2; have h4:(waitIn j m).ws.length=m.ws.length:=(by simp[Mk.setW,waitIn,Mk.fresh]); have h5:(O.2.1.lay (ix 23 0 O.1 0)).ws.length=O.2.1.ws.length:=rfl; omega)⟩⟩
  ·rcases h1 with rfl|rfl
   ·have h:=HWT.out; rw[zbb (by omega)] at h; cases h
   ·have HKS:=hid' hks
    have HZZ:=hid' (show(T.mk 31 n s ks).size=1+(a.size+(b.size)) by rw[T.size,hks]; simp[sizes])
    have HKI0:=hid' (show(T.mk 31 n s ks).ks[0]? = some a by show ks[0]? = some a; rw[hks]; rfl)
    have HKI1:=hid' (show(T.mk 31 n s ks).ks[1]? = some b by show ks[1]? = some b; rw[hks]; rfl)
    obtain⟨cb,off,_,_,_,_,_,_,hq,hcb, -⟩:=zbq (t:=.mk 31 n s ks) HKR.out HKI0.out
    subst hq
    have HCB:=hid' hcb
    clear hcb
    clear hks
    have c0:=zaa (HBX4.out.at' _ (.head _)) 0 _ rfl
    have c1:=zaa (HBX4.out.at' _ (.head _)) 1 _ rfl
    have c2:=zaa (HBX4.out.at' _ (.head _)) 2 _ rfl
    have c3:=zaa (HBX4.out.at' _ (.head _)) 3 _ rfl
    simp only at c0 c1 c2 c3
    have HXa:=hid' ha
    have HXb:=hid' hb
    have HDY:=hid' (qai HX.out (.inr (.inr rfl)))
    have HE:=hid' (show wait sh j (T.mk 31 n s ks) m=pick sh j (T.mk 31 n s ks) (waitIn j m) from zdo rfl)
    have o0:=zaa HOJ4.out.2.1 0 _ rfl
    have o1:=zaa HOJ4.out.2.1 1 _ rfl
    have o2:=zaa HOJ4.out.2.1 2 _ rfl
    have o3:=zaa HOJ4.out.2.1 3 _ rfl
    have o4:=zaa HOJ4.out.2.1 4 _ rfl
    have hlk:ks.length=2:=by rw[HKS.out]; rfl
    have hjw:j<(waitIn j m).ws.length:=by have h4:(waitIn j m).ws.length=m.ws.length:=(by simp[Mk.setW,waitIn,Mk.fresh]); have:=HSZ.out.2.2.2.2; omega
    have hp:=qcp sh j n s a b (waitIn j m) k mb kb3 (.slice (some ⟨g,0,none⟩) m.ws.length cw) (.slice pi m.ins.length ci) vj cb off c w4 ha hb (HDA.out a (by rw[HKS.out]; simp)) (HDA.out b (by rw[HKS.out]; simp)) HDY.out (by have h:=HCA.out w4 HK4.out.2.bel; rw[HKS.out] at h; exact h) HM4.out hjw HF0.out (by have:=HSZ.out; have:=HZZ.out; omega)
    rw[show T.mk 31 n s [a,b]=T.mk 31 n s ks by rw[HKS.out]] at hp
    have HP:=hid' (show Calls Tryz.prog 107 #[.pointer (some ⟨mb,0,none⟩),.agg #[.int .i64 j,.int .i64 31,.int .i64 n,.string s,.slice (some ⟨cb,off,none⟩) ks.length c]] w4 (fun e w'=>(∃ r,e=.returned r)∧Lays mb kb3 none sh (pick sh j (.mk 31 n s ks) (waitIn j m)) w4 w') by rw[hlk]; exact hp)
    clear ha hb hp hlk hjw c0 c1 c2 c3
    go_wp2_with fail
    refine HP.out.mono ?_
    rintro e w5 ⟨⟨r5,rfl⟩,hl5⟩
    obtain⟨vw5,vi5,vj5,kb5,m5,hk5⟩:=KpG.next HK4.out hl5.wk
    have HM5:=hid' m5
    have HK5:=hid' hk5
    clear hl5 m5 hk5 HP o0 o1 o2 o3 o4
    go_wp2_with fail
    refine bodyPost_ret (results_none rfl _ _ _) rfl ?_
    rw[HE.out]
    exact⟨⟨_,rfl⟩,ub,HUB.out,⟨_,_,_,_,HM5.out,HK5.out.1⟩,HK5.out.2⟩
  ·have HKS:=hid' hks
   have HZZ:=hid' (show(T.mk 28 n s ks).size=1+(o.size+(a.size+(b.size))) by rw[T.size,hks]; simp[sizes])
   have HKI0:=hid' (show(T.mk 28 n s ks).ks[0]? = some o by show ks[0]? = some o; rw[hks]; rfl)
   have HKI1:=hid' (show(T.mk 28 n s ks).ks[1]? = some a by show ks[1]? = some a; rw[hks]; rfl)
   have HKI2:=hid' (show(T.mk 28 n s ks).ks[2]? = some b by show ks[2]? = some b; rw[hks]; rfl)
   obtain⟨cb,off,_,_,_,_,_,_,hq,hcb, -⟩:=zbq (t:=.mk 28 n s ks) HKR.out HKI0.out
   subst hq
   have HCB:=hid' hcb
   clear hcb
   clear hks
   have c0:=zaa (HBX4.out.at' _ (.head _)) 0 _ rfl
   have c1:=zaa (HBX4.out.at' _ (.head _)) 1 _ rfl
   have c2:=zaa (HBX4.out.at' _ (.head _)) 2 _ rfl
   have c3:=zaa (HBX4.out.at' _ (.head _)) 3 _ rfl
   simp only at c0 c1 c2 c3
   have HXa:=hid' ha
   have HXb:=hid' hb
   have HOb:=hid' (zbd ho)
   have HFO:=hid' (zat sh 200 o _ [] _ (zbd ho) HF0.out)
   have HUO:=hid' (zfl sh 200 o (waitIn j m) [] (fun p hp=>by cases hp))
   have HWO:=hid' (zlx sh 200 o (waitIn j m) [])
   obtain⟨O,hO⟩:∃ O,Hid (obs sh 200 o (waitIn j m) []=O):=⟨_,hid' rfl⟩
   rw[hO.out] at HFO HUO HWO
   have HE:=hid' (show wait sh j (T.mk 28 n s ks) m=again j (either (con sh 200) O.1 (T.mk 28 n s ks) O.2.1) O.2.2 by rw[zet rfl,show(T.mk 28 n s ks).kid 0=o by rw[HKS.out]; rfl,hO.out])
   have hk1:(T.mk 28 n s ks).kid 1=a:=by rw[HKS.out]; rfl
   have hk2:(T.mk 28 n s ks).kid 2=b:=by rw[HKS.out]; rfl
   have hei:=zid (con:=con sh 200) (t:=T.mk 28 n s ks) O.1 HFO.out.m (fun k m h=>by rw[hk1]; exact zav sh 200 a m k ha h) (fun k m h=>by rw[hk2]; exact zav sh 200 b m k hb h)
   rw[hk1,hk2] at hei
   have HEI:=hid' hei
   have HEW:=hid' (qac O.1 (T.mk 28 n s ks) O.2.1 (zhq sh 200))
   have HB4:=hid' (HBX4.out.at' _ (.head _))
   clear ha hb ho hk1 hk2 hei
   obtain⟨kop,kn,kst,pk,kl,ck,hvk,r0,r1,r2,r3⟩:=zcn (t:=.mk 28 n s ks) (zaw HKR.out HK4.out.2.bel) (i:=0) HKI0.out
   simp only[Nat.zero_mul,Nat.add_zero,Nat.one_mul,Nat.reduceMul] at r0 r1 r2 r3
   have j2:(0:Int)<(ks.length:Int):=by have:=congrArg List.length HKS.out; simp at this; omega
   have j5:ks≠[]:=by rw[HKS.out]; simp
   have j3:0<ks.length:=List.length_pos_iff.2 j5
   have HC:=hid' (zju sh 200 o (waitIn j m) [] _ mb kb3 (some ub) (.slice (some ⟨g,0,none⟩) m.ws.length cw) (.slice pi m.ins.length ci) vj _ w4.drew HOb.out (HDA.out o (by rw[HKS.out]; simp)) (hvk.kept ((Below.refl mb _).drew) (Nat.le_refl _)) HM4.out.drew (HUN4.out.below (Below.refl _ _).drew) (fun e=>by cases e) HF0.out (by have:=HSZ.out; have:=HZZ.out; omega) (by have:=HSZ.out; have:=HZZ.out; show 0+8 * _≤_; omega))
   rw[show uptr (some ub)=Value.pointer (some ⟨ub,0,none⟩) from rfl,hO.out] at HC
   clear hvk
   go_upto_region 22 with(fail)
   clear c0 c1 c2 c3
   refine zlj (fun W=>W.heap[B+1]? = some (.cells #[.int .i64 28,.int .i64 n,.string s,.slice (some ⟨cb,off,none⟩) ks.length c] 24 (0,0))∧W.heap[cb]? = w4.heap[cb]?) [(0,false),(1,false),(2,false),(3,false),(4,false),(5,false),(7,false),(6,true),(8,true)] (by kernel_rfl) (by kernel_rfl) (by kernel_rfl) ⟨HB4.out,rfl⟩ ?_
   iterate 7
    apply znf (ho:=rfl)
    ·rfl
    ·intro W hW
     have p0:=zaa hW.1 0 _ rfl
     have p1:=zaa hW.1 1 _ rfl
     have p2:=zaa hW.1 2 _ rfl
     have p3:=zaa hW.1 3 _ rfl
     have s0:=zdb r0 hW.2
     have s1:=zdb r1 hW.2
     have s2:=zdb r2 hW.2
     have s3:=zdb r3 hW.2
     first|(go_simp; done)|(go_simp; with_reducible rfl)
    simp only[Act.put,List.setIfInBounds_toArray,List.set_cons_zero,List.set_cons_succ]
   refine zhv (i:=6) 104 #[.pointer (some ⟨mb,0,none⟩),.agg #[.int .i64 kop,.int .i64 kn,.string kst,.slice pk kl ck],.pointer (some ⟨ub,0,none⟩)] (fun v w'=>v=.int .i64 O.1∧Lays mb kb3 (some ub) sh O.2.1 w4.drew w'∧UnkO mb (some ub) O.2.2 w') rfl ?_ ?_ ?_ ?_
   ·rfl
   ·go_simp
   ·refine HC.out.mono ?_
    rintro e w5 ⟨rfl,hl5,hu5⟩
    exact⟨_,rfl,rfl,hl5,hu5⟩
   rintro v w5 ⟨rfl,hl5,hu5⟩
   have HUN5:=hid' hu5
   have HBX5:=hid' ((HBX4.out.below (Below.refl _ w4).drew).kp hl5.kp (HUN4.out.below (Below.refl _ w4).drew))
   have HOJ5:=hid' ((HOJ4.out.below (Below.refl _ w4).drew).kp hl5.kp)
   obtain⟨vw5,vi5,vj5,kb5,m5,hk5⟩:=KpG.next (show(kb3=kb∨w.heap.size≤kb3)∧KpG mb kb (some ub) w w4.drew from⟨HK4.out.1,HK4.out.2.trans HM4.out.kd HK4.out.1⟩) hl5
   have HM5:=hid' m5
   have HK5:=hid' hk5
   have hf5:w5.heap[cb]? = w4.heap[cb]?:=hl5.kp.bel.block cb HCB.out
   have HFC:=hid' hf5
   refine⟨⟨HBX5.out.at' _ (.head _),hf5⟩,?_⟩
   clear hl5 m5 hk5 hf5 hu5 HC HM4 HK4 HBX4 HOJ4 HUN4
   simp only[Act.put,List.setIfInBounds_toArray,List.set_cons_zero,List.set_cons_succ]
   refine zhv (i:=8) 105 #[.pointer (some ⟨mb,0,none⟩),.int .i64 O.1,.agg #[.int .i64 28,.int .i64 n,.string s,.slice (some ⟨cb,off,none⟩) ks.length c]] (fun v w'=>Lays mb kb5 none sh (either (con sh 200) O.1 (T.mk 28 n s ks) O.2.1) w5 w') rfl ?_ ?_ ?_ ?_
   ·rfl
   ·go_simp
   ·refine(zpe (zhr sh 200) (T.mk 28 n s ks) o a b O.1 O.2.1 _ mb kb5 vw5 vi5 vj5 _ w5 HKS.out HXa.out HXb.out (HDA.out a (by rw[HKS.out]; simp)) (HDA.out b (by rw[HKS.out]; simp)) (HCA.out w5 HK5.out.2.bel) HM5.out HFO.out.m (by have:=HSZ.out; have:=HZZ.out; omega)).mono ?_
    rintro e w6 ⟨⟨r6,rfl⟩,hl6⟩
    exact⟨_,rfl,hl6⟩
   rintro v w6 hl6
   have HBX6:=hid' (HBX5.out.kp hl6.kp (u:=[]) zag)
   have HUN6:=hid' (HUN5.out.kp hl6.kp)
   have HOJ6:=hid' (HOJ5.out.kp hl6.kp)
   obtain⟨vw6,vi6,vj6,kb6,m6,hk6⟩:=KpG.next HK5.out hl6.wk
   have HM6:=hid' m6
   have HK6:=hid' hk6
   have hf6:w6.heap[cb]? = w4.heap[cb]?:=(hl6.kp.bel.block cb HCB.out).trans HFC.out
   refine⟨⟨HBX6.out.at' _ (.head _),hf6⟩,?_⟩
   clear hl6 m6 hk6 hf6 r0 r1 r2 r3 j2 j3 j5 HM5 HK5 HBX5 HOJ5 HUN5
   simp only[Act.put,List.setIfInBounds_toArray,List.set_cons_zero,List.set_cons_succ]
   refine zqm ?_
   go_wp2_with fail
   go_meet
   refine⟨trivial,⟨either (con sh 200) O.1 (T.mk 28 n s ks) O.2.1,_,_,_,_,_,HE.out,HM6.out,HK6.out.1,HK6.out.2,HOJ6.out,HUN6.out,(by have:=HEI.out.len; have:=HSZ.out; have:=HZZ.out; omega),(by have:=HFO.out.u; have:=HSZ.out; have:=HZZ.out; have h:([]:List Nat).length=0:=rfl; omega),(HUO.out.more HEW.out.2),(by have h1:=HEW.out.1; have h2:=HWO.out; have h3:=HSZ.out.2.2.2.2; have h4:(waitIn j m).ws.length=m.ws.length:=(by simp[Mk.setW,waitIn,Mk.fresh]); omega)⟩⟩
  ·have HKS:=hid' hks
   have HZZ:=hid' (show(T.mk 30 n s ks).size=1+(o.size+(a.size)) by rw[T.size,hks]; simp[sizes])
   have HKI0:=hid' (show(T.mk 30 n s ks).ks[0]? = some o by show ks[0]? = some o; rw[hks]; rfl)
   have HKI1:=hid' (show(T.mk 30 n s ks).ks[1]? = some a by show ks[1]? = some a; rw[hks]; rfl)
   obtain⟨cb,off,_,_,_,_,_,_,hq,hcb, -⟩:=zbq (t:=.mk 30 n s ks) HKR.out HKI0.out
   subst hq
   have HCB:=hid' hcb
   clear hcb
   clear hks
   have c0:=zaa (HBX4.out.at' _ (.head _)) 0 _ rfl
   have c1:=zaa (HBX4.out.at' _ (.head _)) 1 _ rfl
   have c2:=zaa (HBX4.out.at' _ (.head _)) 2 _ rfl
   have c3:=zaa (HBX4.out.at' _ (.head _)) 3 _ rfl
   simp only at c0 c1 c2 c3
   have HXa:=hid' ha
   have HOb:=hid' (zbd ho)
   have HDY:=hid' (qai HX.out (.inr (.inl rfl)))
   have hw1:IntKind.i64.wrap (n+1)=n+1:=IntWalk.i64_in _ (by have:=HDY.out; omega)
   have HF5:=hid' (show Fit k ((waitIn j m).setW j fun w=>{ w with day:=n+1 }) from HF0.out.setW j _)
   have HF6:=hid' (HF5.out.lay (ix 21 0 0 n))
   have HFO:=hid' (zat sh 200 o _ [] _ (zbd ho) HF6.out)
   have HUO:=hid' (zfl sh 200 o (((waitIn j m).setW j fun w=>{ w with day:=n+1 }).lay (ix 21 0 0 n)) [] (fun p hp=>by cases hp))
   have HWO:=hid' (zlx sh 200 o (((waitIn j m).setW j fun w=>{ w with day:=n+1 }).lay (ix 21 0 0 n)) [])
   have HLO:=hid' (zap sh 200 o (((waitIn j m).setW j fun w=>{ w with day:=n+1 }).lay (ix 21 0 0 n)) [])
   obtain⟨O,hO⟩:∃ O,Hid (obs sh 200 o (((waitIn j m).setW j fun w=>{ w with day:=n+1 }).lay (ix 21 0 0 n)) []=O):=⟨_,hid' rfl⟩
   rw[hO.out] at HFO HUO HWO HLO
   have HF8:=hid' (HFO.out.m.lay (ix 19 0 O.1 0))
   have HFC:=hid' (zav sh 200 a _ _ ha HF8.out)
   have HPC:=hid' (zhq sh 200 a (O.2.1.lay (ix 19 0 O.1 0)))
   obtain⟨C,hC⟩:∃ C,Hid (con sh 200 a (O.2.1.lay (ix 19 0 O.1 0))=C):=⟨_,hid' rfl⟩
   rw[hC.out] at HFC HPC
   have HE:=hid' (show wait sh j (T.mk 30 n s ks) m=again j (C.here (waitIn j m).ins.length) (O.2.2++[O.2.1.ins.length]) by
    have h:=zdn (sh:=sh) (j:=j) (t:=T.mk 30 n s ks) (m:=m) rfl
    rw[show(T.mk 30 n s ks).kid 0=o by rw[HKS.out]; rfl,show(T.mk 30 n s ks).kid 1=a by rw[HKS.out]; rfl] at h
    change wait sh j (T.mk 30 n s ks) m=again j ((con sh 200 a ((obs sh 200 o (((waitIn j m).setW j fun w=>{ w with day:=n+1 }).lay (ix 21 0 0 n)) []).2.1.lay (ix 19 0 (obs sh 200 o (((waitIn j m).setW j fun w=>{ w with day:=n+1 }).lay (ix 21 0 0 n)) []).1 0))).here (waitIn j m).ins.length) ((obs sh 200 o (((waitIn j m).setW j fun w=>{ w with day:=n+1 }).lay (ix 21 0 0 n)) []).2.2++[(obs sh 200 o (((waitIn j m).setW j fun w=>{ w with day:=n+1 }).lay (ix 21 0 0 n)) []).2.1.ins.length]) at h
    rw[hO.out,hC.out] at h
    exact h)
   have HLC:=hid' (show C.ins.length≤700000 by have:=HFC.out.len; have:=HSZ.out; have:=HZZ.out; omega)
   clear ha ho
   have hx5:(waitIn j m).ws[j]? = some { x with entry:=m.ins.length }:=zvt _ HXX.out
   obtain⟨g',cw',hvw',hg', -,hwc',hwf'⟩:=HM4.out.wcell hx5
   obtain rfl:g=g':=Option.some.inj hg'
   have q1:w4.cell? ⟨g,j * 5+1,none⟩=some (.int .i64 x.day):=hwc' 1 _ rfl
   have z1:=hwf' (j * 5+1)
   have hset:=HM4.out.setF (j:=j) (g:=g) (f:=1) (u:=.int .i64 (n+1)) (fn:=fun w=>{ w with day:=(n+1) }) (List.getElem?_eq_some_iff.1 hx5).1 hg' (by decide) (fun _=>rfl)
   have HM5:=hid' hset.1
   have HK5:=hid' (And.intro HK4.out.1 (HK4.out.2.trans hset.2.wk HK4.out.1))
   have HBX5:=hid' (HBX4.out.kp hset.2 (u:=[]) zag)
   have HOJ5:=hid' (HOJ4.out.kp hset.2)
   have HUN5:=hid' (HUN4.out.kp hset.2)
   clear hset hwc' hwf' hvw' hg' hx5
   go_upto_region 13 with(fail)
   clear q1 z1 HM4 HK4 HBX4 HOJ4 HUN4 c0 c1 c2 c3
   generalize World.setCell _ _ _=w5 at *
   have c0:=zaa (HBX5.out.at' _ (.head _)) 0 _ rfl
   have c1:=zaa (HBX5.out.at' _ (.head _)) 1 _ rfl
   have c2:=zaa (HBX5.out.at' _ (.head _)) 2 _ rfl
   have c3:=zaa (HBX5.out.at' _ (.head _)) 3 _ rfl
   simp only at c0 c1 c2 c3
   have HJP:=hid' (zcp mb kb3 sh ((waitIn j m).setW j fun w=>{ w with day:=n+1 }) (.slice (some ⟨g,0,none⟩) m.ws.length cw) (.slice pi m.ins.length ci) vj (ix 21 0 0 n) w5 HM5.out (by have:=HSZ.out; show m.ins.length≤_; omega))
   unfold ix txt0 at HJP
   go_wp2_with fail
   refine HJP.out.mono ?_
   rintro e w6 ⟨f6,rfl,⟨ja1,ja2,rfl,ja3⟩,hl6⟩
   have HBja:=hid' (show JumpFn mb w6 _ _ from⟨ja1,ja2,rfl,ja3⟩)
   clear HJP
   have HBX6:=hid' (HBX5.out.kp hl6.kp (u:=[]) zag)
   have HUN6:=hid' (HUN5.out.kp hl6.kp)
   have HOJ6:=hid' (HOJ5.out.kp hl6.kp)
   obtain⟨vw6,vi6,vj6,kb6,m6,hk6⟩:=KpG.next HK5.out hl6.wk
   have HM6:=hid' m6
   have HK6:=hid' hk6
   clear hl6 m6 hk6 HM5 HK5 HBX5 HOJ5 HUN5 c0 c1 c2 c3
   have c0:=zaa (HBX6.out.at' _ (.head _)) 0 _ rfl
   have c1:=zaa (HBX6.out.at' _ (.head _)) 1 _ rfl
   have c2:=zaa (HBX6.out.at' _ (.head _)) 2 _ rfl
   have c3:=zaa (HBX6.out.at' _ (.head _)) 3 _ rfl
   simp only at c0 c1 c2 c3
   obtain⟨kop,kn,kst,pk,kl,ck,hvk,r0,r1,r2,r3⟩:=zcn (t:=.mk 30 n s ks) (zaw HKR.out HK6.out.2.bel) (i:=0) HKI0.out
   simp only[Nat.zero_mul,Nat.add_zero,Nat.one_mul,Nat.reduceMul] at r0 r1 r2 r3
   have j2:(0:Int)<(ks.length:Int):=by have:=congrArg List.length HKS.out; simp at this; omega
   have j5:ks≠[]:=by rw[HKS.out]; simp
   have j3:0<ks.length:=List.length_pos_iff.2 j5
   have HC:=hid' (zju sh 200 o (((waitIn j m).setW j fun w=>{ w with day:=n+1 }).lay (ix 21 0 0 n)) [] _ mb kb6 (some ub) vw6 vi6 vj6 _ w6 HOb.out (HDA.out o (by rw[HKS.out]; simp)) hvk HM6.out HUN6.out (fun e=>by cases e) HF6.out (by have:=HSZ.out; have:=HZZ.out; omega) (by have:=HSZ.out; have:=HZZ.out; show 0+8 * _≤_; omega))
   rw[show uptr (some ub)=Value.pointer (some ⟨ub,0,none⟩) from rfl,hO.out] at HC
   clear hvk
   go_wp2_with fail
   refine HC.out.mono ?_
   rintro e w7 ⟨rfl,hl7,hu7⟩
   have HUN7:=hid' hu7
   clear HC hu7
   have HBX7:=hid' (HBX6.out.kp hl7.kp HUN6.out)
   have HBja:=hid' (HBja.out.kp hl7.kp HUN6.out.box)
   have HOJ7:=hid' (HOJ6.out.kp hl7.kp)
   obtain⟨vw7,vi7,vj7,kb7,m7,hk7⟩:=KpG.next HK6.out hl7
   have HM7:=hid' m7
   have HK7:=hid' hk7
   clear hl7 m7 hk7 HM6 HK6 HBX6 HOJ6 HUN6 c0 c1 c2 c3 r0 r1 r2 r3 j2 j3 j5
   have c0:=zaa (HBX7.out.at' _ (.head _)) 0 _ rfl
   have c1:=zaa (HBX7.out.at' _ (.head _)) 1 _ rfl
   have c2:=zaa (HBX7.out.at' _ (.head _)) 2 _ rfl
   have c3:=zaa (HBX7.out.at' _ (.head _)) 3 _ rfl
   simp only at c0 c1 c2 c3
   have HLN7:=hid' (show O.2.1.ins.length≤700000 by have:=HFO.out.m.len; have:=HSZ.out; have:=HZZ.out; omega)
   obtain⟨⟨vu,fs,u1,u2,u3⟩,u4⟩:=HUN7.out ub rfl
   have HU:=hid' (And.intro u1 (And.intro u2 (And.intro u3 u4)))
   clear u1 u2 u3 u4
   have hF0:w7.drew.heap[ub]? = some (.cells #[vu] 141 (0,0))∧w7.drew.heap[B+1]? = some (.cells #[.int .i64 30,.int .i64 n,.string s,.slice (some ⟨cb,off,none⟩) ks.length c] 24 (0,0)):=⟨HU.out.1,HBX7.out.at' _ (.head _)⟩
   have HF0:=hid' hF0
   have HUL:=hid' (show(O.2.2).length≤700000 by have:=HFO.out.u; have:=HSZ.out; have:=HZZ.out; have h:([]:List Nat).length=0:=rfl; omega)
   go_upto_region 15 with(fail)
   clear c0 c1 c2 c3
   refine zbu (fun W=>W.heap[ub]? = some (.cells #[vu] 141 (0,0))∧W.heap[B+1]? = some (.cells #[.int .i64 30,.int .i64 n,.string s,.slice (some ⟨cb,off,none⟩) ks.length c] 24 (0,0))) 7 [false,false,false,true,true,true,true,true] (by kernel_rfl) (by kernel_rfl) (by kernel_rfl) hF0 ?_
   clear hF0
   iterate 3
    apply zbi
    ·rfl
    ·intro W hW
     have p0:=zaa hW.1 0 _ rfl
     have p1:=zaa hW.2 1 _ rfl
     first|(go_simp; done)|(go_simp; with_reducible rfl)
    simp only[Act.put,List.setIfInBounds_toArray,List.set_cons_zero,List.set_cons_succ]
   have hml:=HM7.out.drew
   refine zbg (v:=.agg #[.int .i64 19,.int .i64 0,.int .i64 O.1,.int .i64 0,.int .i64 0,.string ⟨#[]⟩,.int .i64 0]) (w':=w7.drew) ?_ ?_ ?_ ?_
   ·rfl
   ·first|(go_simp; done)|(go_simp; with_reducible rfl)
   ·exact .inr HF0.out
   simp only[Act.put,List.setIfInBounds_toArray,List.set_cons_zero,List.set_cons_succ]
   refine zdt 106 #[.pointer (some ⟨mb,0,none⟩),.agg #[.int .i64 19,.int .i64 0,.int .i64 O.1,.int .i64 0,.int .i64 0,.string ⟨#[]⟩,.int .i64 0]] (fun f w'=>JumpFn mb w' f (O.2.1).ins.length∧Lays mb kb7 none sh ((O.2.1).lay (ix 19 0 O.1 0)) w7.drew w') ?_ ?_ ?_ ?_
   ·rfl
   ·go_simp
   ·refine(zcp mb kb7 sh (O.2.1) vw7 vi7 vj7 (ix 19 0 O.1 0) w7.drew hml (by have:=HLN7.out; omega)).mono ?_
    rintro e w' ⟨f,h1,h2,h3⟩
    exact⟨f,h1,h2,h3⟩
   rintro f wA ⟨⟨jb1,jb2,rfl,hjr⟩,hly⟩
   have hjf:JumpFn mb wA (.func (.func 150) #[] #[.pointer (some ⟨jb1,0,none⟩),.pointer (some ⟨jb2,0,none⟩)]) (O.2.1).ins.length:=⟨jb1,jb2,rfl,hjr⟩
   have HLA:=hid' hly
   have hb4:=hly.box (k:=ub) (by have:=HU.out.2.2.2; omega) (by decide) (by decide) (by decide) HF0.out.1
   have hc4:=hly.box (k:=B+1) (by have:=(HBX7.out.ok _ (.head _)).1; simp only at this; omega) (by decide) (by decide) (by decide) HF0.out.2
   have hrow4:wA.ownsRow (mb+1) 1 1 vu (O.2.2).length fs:=by
    refine⟨HU.out.2.1.1,?_⟩
    rcases HU.out.2.1.2 with h5|⟨g,cap,cur,e1,e2,e3,e4⟩
    ·exact .inl h5
    ·exact .inr ⟨g,cap,cur,e1,e2,hly.box (k:=g) (by omega) (by decide) (by decide) (by decide) e3,e4⟩
   have hj4:∀(i:Nat) p,(O.2.2)[i]? = some p→∃ f,fs[i]? = some f∧JumpFn mb wA f p:=fun i p hp=>by
    obtain⟨f',h1,h2⟩:=HU.out.2.2.1 i p hp
    exact⟨f',h1,(h2.below (Below.refl _ w7).drew).kp hly.kp (fun u e=>by cases e)⟩
   have HOJA:=hid' ((HOJ7.out.below (Below.refl _ w7).drew).kp hly.kp)
   have HBXA:=hid' ((HBX7.out.below (Below.refl _ w7).drew).kp hly.kp (u:=[]) zag)
   have HBja:=hid' ((HBja.out.below (Below.refl _ w7).drew).kp hly.kp (fun u e=>by cases e))
   obtain⟨vwA,viA,vjA,kbA,mA,hkA⟩:=KpG.next (show(kb7=kb∨w.heap.size≤kb7)∧KpG mb kb (some ub) w w7.drew from⟨HK7.out.1,HK7.out.2.trans HM7.out.kd HK7.out.1⟩) hly.wk
   have HMA:=hid' mA
   have HKA:=hid' hkA
   refine⟨.inr ⟨hb4,hc4⟩,?_⟩
   clear mA hkA hly hml HLA HU HF0 HM7 HK7 HBX7 HOJ7 HUN7
   simp only[Act.put,List.setIfInBounds_toArray,List.set_cons_zero,List.set_cons_succ]
   have hba:=(Below.refl wA.heap.size wA).alloc (Nat.le_refl _) (.cells #[(.func (.func 150) #[] #[.pointer (some ⟨jb1,0,none⟩),.pointer (some ⟨jb2,0,none⟩)])] 1)
   have hnn:=heap_alloc_new wA (.cells #[(.func (.func 150) #[] #[.pointer (some ⟨jb1,0,none⟩),.pointer (some ⟨jb2,0,none⟩)])] 1)
   have hb5:=zad hba hb4
   have hc5:=zad hba hc4
   refine zbg (v:=.slice (some ⟨wA.heap.size,0,none⟩) 1 1) (w':=wA.alloc (.cells #[(.func (.func 150) #[] #[.pointer (some ⟨jb1,0,none⟩),.pointer (some ⟨jb2,0,none⟩)])] 1)) ?_ ?_ ?_ ?_
   ·rfl
   ·first|(go_simp; done)|(go_simp; with_reducible rfl)
   ·exact .inr ⟨hb5,hc5⟩
   simp only[Act.put,List.setIfInBounds_toArray,List.set_cons_zero,List.set_cons_succ]
   have hj5:∀(i:Nat) p,(O.2.2)[i]? = some p→∃ f',fs[i]? = some f'∧JumpFn mb (wA.alloc (.cells #[(.func (.func 150) #[] #[.pointer (some ⟨jb1,0,none⟩),.pointer (some ⟨jb2,0,none⟩)])] 1)) f' p:=fun i p hp=>by
    obtain⟨f',h1,h2⟩:=hj4 i p hp
    exact⟨f',h1,h2.below hba⟩
   have hjf5:=hjf.below hba
   have HMB5:=hid' (HMA.out.below hba)
   have HKB5:=hid' (show(kbA=kb∨w.heap.size≤kbA)∧KpG mb kb (some ub) w _ from⟨HKA.out.1,HKA.out.2.trans (KpG.of hba (Nat.le_of_lt HMA.out.lt)) HKA.out.1⟩)
   have HOJ5:=hid' (HOJA.out.below hba)
   have HBX5:=hid' (HBXA.out.below hba)
   have HBja:=hid' (HBja.out.below hba)
   have hlt5:mb<(wA.alloc (.cells #[(.func (.func 150) #[] #[.pointer (some ⟨jb1,0,none⟩),.pointer (some ⟨jb2,0,none⟩)])] 1)).heap.size:=HMB5.out.lt
   have hrow5:=World.ownsRow.alloc hrow4 (.cells #[(.func (.func 150) #[] #[.pointer (some ⟨jb1,0,none⟩),.pointer (some ⟨jb2,0,none⟩)])] 1)
   have HUBM:=hid' (show mb<ub by have:=HUB.out; have:=HMB.out; omega)
   obtain⟨wAs,hwAs⟩:∃ k,wA.heap.size=k:=⟨_,rfl⟩
   rw[hwAs] at hnn ⊢
   clear hba hb4 hc4 hj4 hrow4 hwAs HMA HKA HOJA HBXA hjf
   generalize World.alloc wA _=wB at *
   obtain⟨ti,ti1,ti2,ti3,ti4⟩:=info_split znb
   have hul:=HUL.out
   refine zef _ _ 141 rfl rfl (mb+1) 1 ti _ 1 8 Tryz.underlying141 ti1 ti2 ti3 ti4 rfl (by decide) vu _ _ rfl hrow5 ⟨wAs,0,none⟩ 1 1 [(.func (.func 150) #[] #[.pointer (some ⟨jb1,0,none⟩),.pointer (some ⟨jb2,0,none⟩)])] rfl rfl
    (fun j y hj=>?_) (fun y hy=>?_) (by decide) (by unfold maxLen; omega) (by omega) (by omega) (fun gq cap wC hown hgr hat hlt=>?_)
   ·rw[add_gen,Nat.zero_add]
    unfold World.cell?
    simp only[hnn]
    simpa using hj
   ·simp only[List.mem_cons,List.not_mem_nil,or_false] at hy
    subst hy
    rfl
   have hpush:=UnkAt.push (W:=wB) HUBM.out hb5 hrow5 hj5 hjf5 hown hgr
   have hkk:=zia (v:=.slice (some ⟨gq,0,none⟩) ((O.2.2).length+1) cap) HMB5.out HUBM.out hb5 hpush.2 hrow5 hgr
   have HM8:=hid' hkk.1
   have HK8:=hid' (show(kbA=kb∨w.heap.size≤kbA)∧KpG mb kb (some ub) w _ from⟨HKB5.out.1,HKB5.out.2.trans hkk.2 HKB5.out.1⟩)
   have HOJ8:=hid' (HOJ5.out.kp hkk.2)
   have hub5:UnkO mb (some ub) (O.2.2) wB:=fun b e=>by cases e; exact⟨⟨vu,fs,hb5,hrow5,hj5⟩,HUBM.out⟩
   have HBX8:=hid' (HBX5.out.kp hkk.2 hub5)
   have HBja:=hid' (HBja.out.kp hkk.2 hub5.box)
   have HUN8:=hid' (show UnkO mb (some ub) ((O.2.2)++[(O.2.1).ins.length]) _ from fun b e=>by cases e; exact hpush.1)
   have hfact:wC.heap[ub]? = some (.cells #[vu] 141 (0,0))∧wC.heap[B+1]? = some (.cells #[.int .i64 30,.int .i64 n,.string s,.slice (some ⟨cb,off,none⟩) ks.length c] 24 (0,0)):=⟨hpush.2,by
    have hne:vu.ownBlock≠some (B+1):=fun e=>by
     obtain⟨-,cur,e2⟩:=zbz hrow5 e
     rw[hc5] at e2
     simp at e2
    exact(hgr.block (B+1) (zac hc5) (fun e=>hne e.symm)).trans hc5⟩
   have f0:=frozen_of (o:=0) hpush.2
   have k0:=zaa hpush.2 0 _ rfl
   refine⟨.inr hfact,?_⟩
   simp only[Act.put,List.setIfInBounds_toArray,List.set_cons_zero,List.set_cons_succ]
   refine zdm (w':=wC.setCell ⟨ub,0,none⟩ (.slice (some ⟨gq,0,none⟩) ((O.2.2).length+1) cap)) ?_ ?_ ?_ ?_
   ·rfl
   ·go_simp
   ·exact .inl (Nat.le_refl _)
   refine zcu ?_
   clear hpush hkk hub5 hown hgr hat hlt hrow5 hj5 hjf5 hb5 hc5 HMB5 HKB5 HOJ5 HBX5 f0 k0 hfact hnn
   generalize World.setCell _ _ _=w8 at *
   obtain⟨vw8,hvw8⟩:∃ v,v=vwA:=⟨_,rfl⟩
   obtain⟨vi8,hvi8⟩:∃ v,v=viA:=⟨_,rfl⟩
   obtain⟨vj8,hvj8⟩:∃ v,v=vjA:=⟨_,rfl⟩
   obtain⟨kb8,hkb8⟩:∃ v,v=kbA:=⟨_,rfl⟩
   rw[←hvw8,←hvi8,←hvj8,←hkb8] at HM8
   rw[←hkb8] at HK8
   clear hvw8 hvi8 hvj8 hkb8
   have c0:=zaa (HBX8.out.at' _ (.head _)) 0 _ rfl
   have c1:=zaa (HBX8.out.at' _ (.head _)) 1 _ rfl
   have c2:=zaa (HBX8.out.at' _ (.head _)) 2 _ rfl
   have c3:=zaa (HBX8.out.at' _ (.head _)) 3 _ rfl
   simp only at c0 c1 c2 c3
   obtain⟨kop,kn,kst,pk,kl,ck,hvk,r0,r1,r2,r3⟩:=zcn (t:=.mk 30 n s ks) (zaw HKR.out HK8.out.2.bel) (i:=1) HKI1.out
   simp only[Nat.zero_mul,Nat.add_zero,Nat.one_mul,Nat.reduceMul] at r0 r1 r2 r3
   have j2:(1:Int)<(ks.length:Int):=by have:=congrArg List.length HKS.out; simp at this; omega
   have HC:=hid' (zhr sh 200 a (O.2.1.lay (ix 19 0 O.1 0)) _ mb kb8 vw8 vi8 vj8 _ w8 HXa.out (HDA.out a (by rw[HKS.out]; simp)) hvk HM8.out HF8.out (by have:=HSZ.out; have:=HZZ.out; omega))
   rw[hC.out] at HC
   clear hvk
   go_wp2_with fail
   refine HC.out.mono ?_
   rintro e w9 ⟨⟨r9,rfl⟩,hl9⟩
   clear HC
   have HBX9:=hid' (HBX8.out.kp hl9.kp (u:=[]) zag)
   have HUN9:=hid' (HUN8.out.kp hl9.kp)
   have HBja:=hid' (HBja.out.kp hl9.kp (fun u e=>by cases e))
   have HOJ9:=hid' (HOJ8.out.kp hl9.kp)
   obtain⟨vw9,vi9,vj9,kb9,m9,hk9⟩:=KpG.next HK8.out hl9.wk
   have HM9:=hid' m9
   have HK9:=hid' hk9
   clear hl9 m9 hk9 HM8 HK8 HBX8 HOJ8 HUN8 c0 c1 c2 c3 r0 r1 r2 r3 j2
   have c0:=zaa (HBX9.out.at' _ (.head _)) 0 _ rfl
   have c1:=zaa (HBX9.out.at' _ (.head _)) 1 _ rfl
   have c2:=zaa (HBX9.out.at' _ (.head _)) 2 _ rfl
   have c3:=zaa (HBX9.out.at' _ (.head _)) 3 _ rfl
   simp only at c0 c1 c2 c3
   obtain⟨x1,x2,hxe, -, -,hx1,hx2⟩:=HBja.out
   simp only[Value.func.injEq,Array.mk.injEq,List.cons.injEq,Value.pointer.injEq,Option.some.injEq,Addr.mk.injEq,and_true,true_and] at hxe
   obtain⟨rfl,rfl⟩:=hxe
   have HHR:=hid' (zdw mb kb9 sh C vw9 vi9 vj9 ((waitIn j m).ins.length) ja1 ja2 w9 HM9.out (by have:=HLC.out; omega) (by have h1:=HPC.out.2; have h2:=HLO.out; rw[zae] at h1 h2; have h3:(((waitIn j m).setW j fun w=>{ w with day:=n+1 })).ins.length=(waitIn j m).ins.length:=rfl; omega) hx1 hx2)
   clear hx1 hx2
   go_wp2_with fail
   refine HHR.out.mono ?_
   rintro e w10 ⟨⟨r10,rfl⟩,hl10⟩
   clear HHR
   have HBX10:=hid' (HBX9.out.kp hl10.kp (u:=[]) zag)
   have HUN10:=hid' (HUN9.out.kp hl10.kp)
   have HOJ10:=hid' (HOJ9.out.kp hl10.kp)
   obtain⟨vw10,vi10,vj10,kb10,m10,hk10⟩:=KpG.next HK9.out hl10.wk
   have HM10:=hid' m10
   have HK10:=hid' hk10
   clear hl10 m10 hk10 HM9 HK9 HBX9 HOJ9 HUN9 c0 c1 c2 c3
   have c0:=zaa (HBX10.out.at' _ (.head _)) 0 _ rfl
   have c1:=zaa (HBX10.out.at' _ (.head _)) 1 _ rfl
   have c2:=zaa (HBX10.out.at' _ (.head _)) 2 _ rfl
   have c3:=zaa (HBX10.out.at' _ (.head _)) 3 _ rfl
   simp only at c0 c1 c2 c3
   go_wp2_with fail
   go_meet
   refine⟨trivial,⟨C.here (waitIn j m).ins.length,_,_,_,_,_,HE.out,HM10.out,HK10.out.1,HK10.out.2,HOJ10.out,HUN10.out,(by rw[zaf]; exact HLC.out),(by have:=HFO.out.u; have:=HSZ.out; have:=HZZ.out; have h:([]:List Nat).length=0:=rfl; rw[List.length_append,List.length_singleton]; omega),((HUO.out.snoc (ix 19 0 O.1 0)).more (by rw[zaf]; exact HPC.out.2)),(by have h1:=HPC.out.1; have h2:=HWO.out; have h3:=HSZ.out.2.2.2.2; have h4:(((waitIn j m).setW j fun w=>{ w with day:=n+1 }).lay (ix 21 0 0 n)).ws.length=m.ws.length:=(by simp[Mk.lay,Mk.setW,waitIn,Mk.fresh]); have h5:(O.2.1.lay (ix 19 0 O.1 0)).ws.length=O.2.1.ws.length:=rfl; have h6:(C.here (waitIn j m).ins.length).ws.length=C.ws.length:=rfl; omega)⟩⟩
 case rest=>
  obtain⟨-,HMID⟩:=hcut
  obtain⟨M,U,vw5,vi5,vj5,kb5,hR,hM5,hk5,hkp5,hoj5,hun5,hl5,hu5,hw5,hj5⟩:=HMID.out
  have HR:=hid' hR
  have HM5:=hid' hM5
  have HK5:=hid' (And.intro hk5 hkp5)
  have HOJ5:=hid' hoj5
  have HUN5:=hid' hun5
  have HLN:=hid' (And.intro hl5 (And.intro hu5 (And.intro hw5 hj5)))
  clear HMID hR hM5 hk5 hkp5 hoj5 hun5 hl5 hu5 hw5 hj5 HM4 HK4 HBX4 HOJ4 HUN4 HF0 HLN4 HXX HKR HDA HI HCA HF HGO hlw c0
  obtain⟨x5,hx5⟩:∃ x5,M.ws[j]? = some x5:=⟨_,List.getElem?_eq_getElem HLN.out.2.2.2⟩
  obtain⟨g5,cw5,hvw5,hg5,hmg5,hwc5,hwf5⟩:=HM5.out.wcell hx5
  subst hvw5
  have HX5:=hid' (And.intro hx5 hg5)
  have j1:(0:Int)≤(j:Int):=by omega
  have j2:(j:Int)<(M.ws.length:Int):=by have:=HLN.out; omega
  have HQ:=hid' (show wc.drew.cell? ⟨g5,j * 5+1,none⟩=some (.int .i64 x5.day) from hwc5 1 _ rfl)
  have HZ:=hid' (show wc.drew.frozen? ⟨g5,j * 5+1,none⟩=false from hwf5 (j * 5+1))
  have hF0:wc.drew.heap[mb]? = some (.cells #[.int .i64 M.regs,.slice (some ⟨g5,0,none⟩) M.ws.length cw5,vi5,.bool sh,vj5,.int .i64 M.next,.map (some kb5),.bool M.over] 66 (0,0))∧wc.drew.heap[B]? = some (.cells #[.int .i64 j,.int .i64 op,.int .i64 n,.string s,.slice q ks.length c] 104 (0,0))∧wc.drew.cell? ⟨g5,j * 5+1,none⟩=some (.int .i64 x5.day):=⟨HM5.out.box,HOJ5.out.2.1,HQ.out⟩
  clear hwc5 hwf5 hx5 hg5
  obtain⟨lw5,hlw5⟩:∃ lw5,Hid (M.ws.length=lw5):=⟨_,hid' rfl⟩
  rw[hlw5.out] at hF0 j2
  go_upto_region 25 with(fail)
  refine zbu (fun W=>W.heap[mb]? = some (.cells #[.int .i64 M.regs,.slice (some ⟨g5,0,none⟩) lw5 cw5,vi5,.bool sh,vj5,.int .i64 M.next,.map (some kb5),.bool M.over] 66 (0,0))∧W.heap[B]? = some (.cells #[.int .i64 j,.int .i64 op,.int .i64 n,.string s,.slice q ks.length c] 104 (0,0))∧W.cell? ⟨g5,j * 5+1,none⟩=some (.int .i64 x5.day)) 11 [false,false,false,false,false,false,false,false,false,false,false] (by kernel_rfl) (by kernel_rfl) (by kernel_rfl) hF0 ?_
  iterate 11
   apply zbi
   ·rfl
   ·intro W hW
    have q1:=zaa hW.1 1 _ rfl
    have p0:=zaa hW.2.1 0 _ rfl
    have s1:=hW.2.2
    first|(go_simp; done)|(go_simp; with_reducible rfl)
   simp only[Act.put,List.setIfInBounds_toArray,List.set_cons_zero,List.set_cons_succ]
  refine zcu ?_
  have HM6:=hid' HM5.out.drew
  have HOJ6:=hid' (HOJ5.out.below (Below.refl _ wc).drew)
  have HUN6:=hid' (HUN5.out.below (Below.refl _ wc).drew)
  have HK6:=hid' (show(kb5=kb∨w.heap.size≤kb5)∧KpG mb kb (some ub) w wc.drew from⟨HK5.out.1,HK5.out.2.trans HM5.out.kd HK5.out.1⟩)
  have m1:=zaa HM6.out.box 1 _ rfl
  have o0:=zaa HOJ6.out.2.1 0 _ rfl
  rw[hlw5.out] at m1
  clear HM5 HOJ5 HUN5 HK5 hF0
  generalize wc.drew=w6 at *
  go_upto_if 137 with(fail)
  go_cut [137] (fun bb wx=>True∧Hid (MkAt mb sh (M.setW j fun w=>{ w with day:=zck w.day }) (.slice (some ⟨g5,0,none⟩) M.ws.length cw5) vi5 vj5 kb5 wx∧KpG mb kb (some ub) w wx∧Own1 mb 4 B #[.int .i64 j,.int .i64 op,.int .i64 n,.string s,.slice q ks.length c] 104 wx∧UnkO mb (some ub) U wx))
  case first=>
   by_cases hd:73048<x5.day
   ·have gd:decide (73048<x5.day)=true:=decide_eq_true hd
    have HD:=hid' (show zck x5.day=0 from if_pos hd)
    have hset:=HM6.out.drew.setF (j:=j) (g:=g5) (f:=1) (u:=.int .i64 0) (fn:=fun w=>{ w with day:=0 }) HLN.out.2.2.2 HX5.out.2 (by decide) (fun _=>rfl)
    have HM7:=hid' hset.1
    have HK7:=hid' ((HK6.out.2.trans HM6.out.kd HK6.out.1).trans hset.2.wk HK6.out.1)
    have HOJ7:=hid' ((HOJ6.out.below (Below.refl _ w6).drew).kp hset.2)
    have HUN7:=hid' ((HUN6.out.below (Below.refl _ w6).drew).kp hset.2)
    have q1:w6.drew.cell? ⟨g5,j * 5+1,none⟩=some (.int .i64 x5.day):=HQ.out
    have z1:w6.drew.frozen? ⟨g5,j * 5+1,none⟩=false:=HZ.out
    clear hset
    go_upto_region 26 with(fail)
    go_still_tail 9,(by kernel_rfl)
    change wpList _ _ _ _ _ w6.drew
    clear m1 o0
    generalize w6.drew=wd at *
    go_wp2_with fail
    go_meet
    refine⟨trivial,?_,HK7.out,HOJ7.out,HUN7.out⟩
    rw[qeq (f:=fun w=>{ w with day:=zck w.day }) (f':=fun w=>{ w with day:=0 }) HX5.out.1 (by show({ x5 with day:=zck x5.day }:Gen.Wt) = { x5 with day:=0 }; rw[HD.out])]
    exact HM7.out
   ·have gd:decide (73048<x5.day)=false:=decide_eq_false hd
    have HD:=hid' (show zck x5.day=x5.day from if_neg hd)
    go_wp2_with fail
    go_meet
    refine⟨trivial,?_,HK6.out.2,HOJ6.out,HUN6.out⟩
    rw[zye (f:=fun w=>{ w with day:=zck w.day }) HX5.out.1 (by show({ x5 with day:=zck x5.day }:Gen.Wt)=x5; rw[HD.out])]
    exact HM6.out
  case rest=>
   obtain⟨-,HS⟩:=hcut
   have HM7:=hid' HS.out.1
   have HK7:=hid' (And.intro HK6.out.1 HS.out.2.1)
   have HOJ7:=hid' HS.out.2.2.1
   have HUN7:=hid' HS.out.2.2.2
   obtain⟨N,hN⟩:∃ N,Hid ((M.setW j fun w=>{ w with day:=zck w.day })=N):=⟨_,hid' rfl⟩
   have hNl:N.ins.length=M.ins.length:=by rw[←hN.out]; rfl
   rw[hN.out] at HM7
   have HNL:=hid' hNl
   clear HS HM6 HK6 HOJ6 HUN6 m1 o0 j1 j2 HX5 HQ HZ hNl
   have HLY:=hid' (zij mb kb5 sh N _ vi5 vj5 wc HM7.out (by have:=HLN.out; have:=HNL.out; omega))
   go_wp2_with fail
   refine HLY.out.mono ?_
   rintro e w8 ⟨⟨r8,rfl⟩,hl8⟩
   have HUN8:=hid' (HUN7.out.kp hl8.kp)
   have HOJ8:=hid' (HOJ7.out.kp hl8.kp)
   obtain⟨vw8,vi8,vj8,kb8,m8,hk8⟩:=KpG.next HK7.out hl8.wk
   have HM8:=hid' m8
   have HK8:=hid' hk8
   clear hl8 m8 hk8 HLY HM7 HK7 HOJ7 HUN7
   obtain⟨⟨vu,fs,u1,u2,u3⟩,u4⟩:=HUN8.out ub rfl
   obtain⟨pu,cu,hvu⟩:=zay u2
   subst hvu
   have HU:=hid' u1
   have HUV:=hid' (show UnkV mb (.slice pu U.length cu) fs U w8 from⟨u2,u3⟩)
   clear u1 u2 u3 u4
   have u0:=zaa HU.out 0 _ rfl
   clear HUN8
   go_upto_region 29 with(fail)
   clear u0
   obtain⟨wo,hwo⟩:∃ wo,wo=w8:=⟨_,rfl⟩
   have HLP:=hid' (show ∃ vw' vi' vj' kb',MkAt mb sh (hereAll N.fin (U.take 0)) vw' vi' vj' kb' wo∧(kb'=kb∨w.heap.size≤kb')∧KpG mb kb (some ub) w wo∧Own1 mb 4 B #[.int .i64 j,.int .i64 op,.int .i64 n,.string s,.slice q ks.length c] 104 wo∧UnkV mb (.slice pu U.length cu) fs U wo by rw[hwo]; exact⟨_,_,_,_,HM8.out,HK8.out.1,HK8.out.2,HOJ8.out,HUV.out⟩)
   rw[←hwo]
   clear hwo HM8 HK8 HOJ8 HUV HU
   go_loopw [151] (fun iv wr=>∃ i:Nat,iv=.int .i64 (i:Int)∧i≤U.length∧Hid (∃ vw' vi' vj' kb',MkAt mb sh (hereAll N.fin (U.take i)) vw' vi' vj' kb' wr∧(kb'=kb∨w.heap.size≤kb')∧KpG mb kb (some ub) w wr∧Own1 mb 4 B #[.int .i64 j,.int .i64 op,.int .i64 n,.string s,.slice q ks.length c] 104 wr∧UnkV mb (.slice pu U.length cu) fs U wr)) (fun iv _=>U.length - (intOf iv).toNat)
   case atStart=>exact⟨0,rfl,Nat.zero_le _,HLP⟩
   case round=>
    obtain⟨i,rfl,hi,HJ⟩:=hrel
    by_cases hin:i<U.length
    ·obtain⟨p,hp⟩:∃ p,U[i]? = some p:=⟨_,List.getElem?_eq_getElem hin⟩
     obtain⟨vwi,vii,vji,kbi,hmi,hki,hkpi,hoji,huvi⟩:=HJ.out
     obtain⟨f,hf,jb1,jb2,rfl,hb1,hb2,hx1,hx2⟩:=huvi.2 i p hp
     obtain⟨gu,cu',hvu, -, -, -,hcu⟩:=zlv huvi.1 (by omega)
     simp only[Value.slice.injEq] at hvu
     obtain⟨rfl, -,rfl⟩:=hvu
     have c0:wr.cell? ⟨gu,i,none⟩=some _:=hcu i _ hf
     have j1:(0:Int)≤(i:Int):=by omega
     have j2:(i:Int)<(U.length:Int):=by omega
     have hiw:IntKind.i64.wrap ((i:Int)+1)=(i:Int)+1:=IntWalk.i64_in _ (by have:=HLN.out; omega)
     have HHR:=hid' (zdw mb kbi sh (hereAll N.fin (U.take i)) vwi vii vji p jb1 jb2 wr hmi (by rw[zbh]; unfold Mk.fin; rw[zae]; have:=HLN.out; have:=HNL.out; omega) (by rw[zbh]; unfold Mk.fin; rw[zae]; have h1:=HLN.out.2.2.1 p (List.mem_of_getElem? hp); have:=HNL.out; omega) hx1 hx2)
     have HI:=hid' (And.intro hin hp)
     have HMI:=hid' (And.intro (show(kbi=kb∨w.heap.size≤kbi)∧KpG mb kb (some ub) w wr from⟨hki,hkpi⟩) (And.intro hoji huvi))
     clear hcu hmi hki hkpi hoji huvi hx1 hx2 hp hf HJ
     go_wp2_with fail
     refine HHR.out.mono ?_
     rintro e w9 ⟨⟨r9,rfl⟩,hl9⟩
     have HNX:=hid' (show ∃ vw' vi' vj' kb',MkAt mb sh (hereAll N.fin (U.take (i+1))) vw' vi' vj' kb' w9∧(kb'=kb∨w.heap.size≤kb')∧KpG mb kb (some ub) w w9∧Own1 mb 4 B #[.int .i64 j,.int .i64 op,.int .i64 n,.string s,.slice q ks.length c] 104 w9∧UnkV mb (.slice (some ⟨gu,0,none⟩) U.length cu) fs U w9 by
      obtain⟨vw9,vi9,vj9,kb9,m9,hk9,hkp9⟩:=KpG.next HMI.out.1 hl9.wk
      rw[zqs U i p HI.out.2,ztj]
      exact⟨vw9,vi9,vj9,kb9,m9,hk9,hkp9,HMI.out.2.1.kp hl9.kp,HMI.out.2.2.kp hl9.kp⟩)
     clear hl9 HHR c0 HMI
     go_wp2_with fail
     go_roundw
     case rel=>exact⟨i+1,by go_num,by have:=HI.out.1; omega,HNX⟩
     case measure=>have:=HI.out.1; simp only[intOf]; omega
    ·obtain rfl:i=U.length:=by omega
     have j3:decide (U.length<U.length)=false:=by simp
     obtain⟨vw9,vi9,vj9,kb9,hm9,hk9,hkp9,hoj9, -⟩:=HJ.out
     rw[List.take_length] at hm9
     have HM9:=hid' hm9
     have HK9:=hid' (show(kb9=kb∨w.heap.size≤kb9)∧KpG mb kb (some ub) w wr from⟨hk9,hkp9⟩)
     have HOJ9:=hid' hoj9
     obtain⟨Z,hZ⟩:∃ Z,Hid (hereAll N.fin U=Z):=⟨_,hid' rfl⟩
     have hZl:Z.ins.length=M.ins.length+1:=by rw[←hZ.out,zbh]; unfold Mk.fin; rw[zae,HNL.out]
     rw[hZ.out] at HM9
     have HZL:=hid' hZl
     have o0:=zaa HOJ9.out.2.1 0 _ rfl
     have hwI:IntKind.i64.wrap (j:Int)=(j:Int):=IntWalk.i64_in _ (by have:=HSZ.out; omega)
     have HLY:=hid' (zdc mb kb9 sh Z vw9 vi9 vj9 (ix 28 0 0 j) wr HM9.out (by have:=HZL.out; have:=HLN.out; omega))
     unfold ix txt0 at HLY
     clear hin hi hm9 hk9 hkp9 hoj9 HJ HLP hZl
     go_wp2_with fail
     refine HLY.out.mono ?_
     rintro e w10 ⟨rfl,hl10⟩
     obtain⟨vw10,vi10,vj10,kb10,m10,hk10⟩:=KpG.next HK9.out hl10.wk
     have HM10:=hid' m10
     have HK10:=hid' hk10
     clear hl10 m10 hk10 HLY HM9 HK9 HOJ9 o0
     have HLY:=hid' (zij mb kb10 sh (Z.lay (ix 28 0 0 j)) vw10 vi10 vj10 w10 HM10.out (by rw[zae]; have:=HZL.out; have:=HLN.out; omega))
     go_wp2_with fail
     refine HLY.out.mono ?_
     rintro e w11 ⟨⟨r11,rfl⟩,hl11⟩
     obtain⟨vw11,vi11,vj11,kb11,m11,hk11⟩:=KpG.next HK10.out hl11.wk
     have HM11:=hid' m11
     have HK11:=hid' hk11
     clear hl11 m11 hk11 HLY HM10 HK10
     go_wp2_with fail
     refine bodyPost_end (results_none rfl _ _ _) rfl ?_
     rw[HR.out]
     unfold again
     rw[hN.out,hZ.out]
     exact⟨⟨_,rfl⟩,ub,HUB.out,⟨_,_,_,_,HM11.out,HK11.out.1⟩,HK11.out.2⟩
end Gf
end
section
open Go.RowKit
open Rw
set_option maxRecDepth 100000
attribute [local go_sem] zbj
namespace Gf
open Co Dn
theorem zrq {fn:Func}{p:Tmp}{ty:TypeId}(h:fn.results=#[.cell p ty])(tmps:Array Value)(P:Program)(w:World):
  (results fn tmps).run P w=((asAddr (tmps.getD p undef)).run P w).andThen fun a w₁=>(loadVar ty a).run P w₁:=by
 simp only[results,h]
 simp[Sem.run_bind,Result.andThen]
theorem qcb (W:World):(sizeOf (Tryz.prog.elem 63)).run Tryz.prog W=.ok 5 W:=by
 obtain⟨i,hi,hz,hsz,hby⟩:=info_split zti
 have he:Tryz.prog.elem 63=104:=by kernel_rfl
 rw[he]
 simp[sizeOf,typeInfo,hi,hsz]
theorem qex {w:World}{base:Nat}{v:Value}{n:Nat}{xs:List Value}(h:zcr w base 104 5 v (n+1) xs):
  ∃ g o c v',v=.slice (some ⟨g,o,none⟩) (n+1) c∧(∀ W,(Instr.sliceAt 63 (.slice (some ⟨g,o,none⟩) (n+1) c) (some (.int .i64 1)) none none).run Tryz.prog W=.ok v' W)∧zcr w base 104 5 v' n (xs.drop 5)∧v'.ownBlock=some g:=by
 obtain⟨g,o,c,rfl,hc,ht⟩:=qbq h
 have hlen:=h.1
 refine⟨g,o,c,.slice (if c=1 then some ⟨g,o,none⟩ else some ⟨g,o+5,none⟩) n (c - 1),rfl,fun W=>?_,?_,by split<;>rfl⟩
 ·rw[run_sliceAt_slice (h:=Tryz.underlying63),run_slice_l (ht:=Tryz.underlying63) (h0:=by omega) (h1:=by omega),qcb]
  simp[Result.andThen,sliced,add_gen]
 ·by_cases h1:c=1
  ·subst h1
   obtain rfl:n=0:=by omega
   rw[if_pos rfl]
   rcases h.2 with⟨_,h0⟩|⟨g',o',cap,cur,e,hb,hgg,hc2,hm,hs,htake⟩
   ·cases h0
   ·simp only[Value.slice.injEq,Option.some.injEq,Addr.mk.injEq,and_true] at e
    obtain⟨⟨rfl,rfl⟩, -,rfl⟩:=e
    refine⟨by rw[List.length_drop,hlen],.inr ⟨g,o,0,cur,rfl,hb,hgg,Nat.le_refl _,by unfold maxLen; omega,by omega,?_⟩⟩
    rw[Nat.zero_mul,List.take_zero]
    exact(List.drop_eq_nil_of_le (by omega)).symm
  ·rw[if_neg h1]
   exact ht
structure MkRun (t:T)(sh:Bool)(k mb cb:Nat)(w:World)(m:Mk)(W:World):Prop where
 st:St k m
 res:∃ n,run sh n m=make sh t∧Gf.tot m.jobs≤n
 at':∃ vw vi vj kb,MkAt mb sh m vw vi vj kb W
 bel:Below mb w W
 box:Bx mb [(cb,#[.int .i64 0,.slice none 0 0,.slice none 0 0],29)] W
set_option maxHeartbeats 8000000 in
theorem zsz (sh:Bool)(t:T)(mb:Nat)(v:Value)(w:World)(hx:t.letter=99)(hd:t.depth≤200)(hs:t.size≤2000)(hv:CoreAt mb w t v)
  (hb:w.heap[mb]? = some (.cells #[.int .i64 0,.slice none 0 0,.slice none 0 0,.bool sh,.slice none 0 0,.int .i64 0,.map none,.bool false] 66 (0,0))):
  Calls Tryz.prog 21 #[.pointer (some ⟨mb,0,none⟩),v] w (fun e w'=>∃ vw vi vj kb,e=.returned (.agg #[.int .i64 (make sh t).regs,vw,vi])∧MkAt mb sh (make sh t) vw vi vj kb w'∧Below mb w w'):=by
 have hlt:mb<w.heap.size:=zac hb
 have hv0:=hv
 obtain⟨q,c,rfl,hcc,hio,hin,hss,hkr⟩:=hv.open
 have HSF:=hid' (zns sh t hx hd)
 have HRES:=hid' (show make sh t=run sh t.size (con sh 200 t mk0).fin from rfl)
 have HFC:=hid' (zav sh 200 t mk0 0 hx ⟨Nat.le_refl _,by decide,by decide,Nat.le_refl _,fun v r e=>by cases e⟩)
 have HX:=hid' (And.intro hx (And.intro hd hs))
 have HCA:=hid' (fun (W:World) (b:Below mb w W)=>(hv0.kept b (Nat.le_refl _)))
 obtain⟨op,n,s,ks⟩:=t
 simp only[T.op,T.n,T.s,T.ks] at HCA ⊢
 have B1:=(Below.refl w.heap.size w).alloc (Nat.le_refl _) (.cells #[.int .i64 op,.int .i64 n,.string s,.slice q ks.length c] 24)
 have y1:=heap_alloc_new w (.cells #[.int .i64 op,.int .i64 n,.string s,.slice q ks.length c] 24)
 have B2:=(Below.refl (w.heap.size+1) (w.alloc (.cells #[.int .i64 op,.int .i64 n,.string s,.slice q ks.length c] 24))).alloc (by simp) (.cells #[.int .i64 0,.slice none 0 0,.slice none 0 0] 29)
 have y2:=heap_alloc_new (w.alloc (.cells #[.int .i64 op,.int .i64 n,.string s,.slice q ks.length c] 24)) (.cells #[.int .i64 0,.slice none 0 0,.slice none 0 0] 29)
 simp only[World.size_alloc] at y2
 have z1:=(B2.block _ (by omega)).trans y1
 have BA:=B1.trans (B2.mono (by omega))
 have HBX:=hid' (((Bx.nil mb _).cons z1 hlt rfl).cons y2 (by omega) rfl)
 have HMB0:=hid' (zad BA hb)
 have HB:=hid' (BA.mono (Nat.le_of_lt hlt))
 have HLT:=hid' hlt
 clear B1 y1 B2 y2 z1 BA hb hv hv0 hkr hcc hio hin hss hx hd hs
 go_enter Tryz.func21,Tryz.ntmps21
 go_upto_region 1 with(fail)
 obtain⟨B,hB⟩:∃ B,Hid (w.heap.size=B):=⟨_,hid' rfl⟩
 simp only[hB.out] at HBX ⊢
 have HBM:=hid' (show mb<B by rw[←hB.out]; exact HLT.out)
 generalize World.alloc _ _=w1 at *
 have hmm:=@run_makeMap Tryz.prog
 have BM:=(Below.refl w1.heap.size w1).alloc (Nat.le_refl _) (.map #[] 0)
 have hb1:=zad BM HMB0.out
 have m6:=zaa hb1 6 _ rfl
 have f6:=frozen_of (o:=6) hb1
 have s1:=heap_setCell_same (w1.alloc (.map #[] 0)) mb 6 _ _ (.map (some w1.heap.size)) hb1
 have gs:=grown_set (w1.alloc (.map #[] 0)) mb 6 (.map (some w1.heap.size))
 have hmlt:=zac HMB0.out
 have kn:=(Kn.made w1).kept gs (fun e=>by cases e; omega)
 have HM2:=hid' (show MkAt mb sh mk0 (.slice none 0 0) (.slice none 0 0) (.slice none 0 0) w1.heap.size _ from⟨s1,⟨rfl,.inl ⟨rfl,rfl⟩⟩,⟨rfl,.inl ⟨rfl,rfl⟩⟩,⟨[],rfl,qbp _ _ _ _,fun x hx=>by cases hx⟩,⟨0,Nat.le_refl _,kn⟩,hmlt⟩)
 have HB2:=hid' (show Below mb w _ from(HB.out.trans (BM.mono (Nat.le_of_lt hmlt))).trans (Below.setCell (p:=⟨mb,6,none⟩) (Below.refl mb _) (Nat.le_refl _) (.map (some w1.heap.size))))
 have HBX2:=hid' (show Bx mb _ _ from⟨fun x hx=>box_grown gs (by have:=(HBX.out.ok x hx).1; omega) ((HBX.out.below BM).at' x hx),HBX.out.ok⟩)
 clear BM hb1 s1 gs kn hmlt
 go_upto_region 2 with(fail)
 clear m6 f6 hmm HMB0 HBX HB
 obtain⟨kb,hkb⟩:∃ kb,Hid (w1.heap.size=kb):=⟨_,hid' rfl⟩
 generalize World.setCell _ _ _=w2 at *
 rw[hkb.out] at HM2
 have c0:=zaa (HBX2.out.at' _ (.tail _ (.head _))) 0 _ rfl
 have c1:=zaa (HBX2.out.at' _ (.tail _ (.head _))) 1 _ rfl
 have c2:=zaa (HBX2.out.at' _ (.tail _ (.head _))) 2 _ rfl
 have c3:=zaa (HBX2.out.at' _ (.tail _ (.head _))) 3 _ rfl
 simp only at c0 c1 c2 c3
 have HC:=hid' (zhr sh 200 (T.mk op n s ks) mk0 0 mb kb (.slice none 0 0) (.slice none 0 0) (.slice none 0 0) _ w2 HX.out.1 HX.out.2.1 (HCA.out w2 HB2.out) HM2.out ⟨Nat.le_refl _,by decide,by decide,Nat.le_refl _,fun v r e=>by cases e⟩ (by have:=HX.out.2.2; omega))
 obtain⟨C,hC⟩:∃ C,Hid (con sh 200 (T.mk op n s ks) mk0=C):=⟨_,hid' rfl⟩
 rw[hC.out] at HC HSF HRES HFC
 have HCL:=hid' (show C.ins.length≤700000 by have:=HFC.out.len; have:=HX.out.2.2; omega)
 go_wp2_with fail
 refine HC.out.mono ?_
 rintro e w3 ⟨⟨r3,rfl⟩,hl3⟩
 have HBX3:=hid' (HBX2.out.kp hl3.kp (u:=[]) zag)
 have HB3:=hid' (HB2.out.trans hl3.kp.bel)
 obtain⟨vw3,vi3,vj3,kb3,m3, -⟩:=hl3.at'
 have HM3:=hid' m3
 clear hl3 m3 HC c0 c1 c2 c3 HM2 HB2 HBX2
 have HLY:=hid' (zij mb kb3 sh C vw3 vi3 vj3 w3 HM3.out (by have:=HCL.out; omega))
 go_wp2_with fail
 refine HLY.out.mono ?_
 rintro e w4 ⟨⟨r4,rfl⟩,hl4⟩
 have HJ0:=hid' (show ∃ m,MkRun (T.mk op n s ks) sh (8 * (T.mk op n s ks).size+1) mb (B+1) w m w4 by
  obtain⟨vw4,vi4,vj4,kb4,m4, -⟩:=hl4.at'
  exact⟨C.fin,HSF.out.1,⟨_,HRES.out.symm,HSF.out.2⟩,⟨vw4,vi4,vj4,kb4,m4⟩,HB3.out.trans hl4.kp.bel,(HBX3.out.kp hl4.kp (u:=[]) zag).sub (fun x hx=>by simp only[List.mem_singleton] at hx; subst hx; exact .head _)⟩)
 clear hl4 HLY HM3 HB3 HBX3 HSF HRES HFC
 go_upto_region 4 with(fail)
 obtain⟨wo,hwo⟩:∃ wo,wo=w4:=⟨_,rfl⟩
 rw[←hwo] at HJ0 ⊢
 clear hwo
 go_loopw [5] (fun _ wr=>Hid (∃ m,MkRun (T.mk op n s ks) sh (8 * (T.mk op n s ks).size+1) mb (B+1) w m wr)) (fun _ wr=>zna fun x=>∃ m,MkRun (T.mk op n s ks) sh (8 * (T.mk op n s ks).size+1) mb (B+1) w m wr∧Gf.tot m.jobs=x)
 case atStart=>exact HJ0
 case round=>
  obtain⟨m0,hm0⟩:=hrel.out
  obtain⟨m,hm,hmt⟩:=ztb (P:=fun x=>∃ m,MkRun (T.mk op n s ks) sh (8 * (T.mk op n s ks).size+1) mb (B+1) w m wr∧Gf.tot m.jobs=x) ⟨m0,hm0,rfl⟩
  obtain⟨vw,vi,vj,kb5,hma⟩:=hm.at'
  have HM:=hid' hma
  have HR:=hid' hm
  have HMT:=hid' hmt
  clear hrel hm0 hm hmt hma
  obtain⟨J,hJ1,hJ2,hJ3⟩:=HM.out.rj
  cases hj:m.jobs with
  |nil=>
   have hJ0:J=[]:=by rw[hj] at hJ1; exact List.map_eq_nil_iff.1 hJ1.symm
   subst hJ0
   obtain⟨pj,cj,hvj⟩:=zls hJ2
   subst hvj
   have m4:=zaa HM.out.box 4 _ rfl
   have hrw:=HM.out.rw
   obtain⟨pw,cw,hvw⟩:=zay HM.out.rw
   subst hvw
   obtain⟨pi,ci,hvi⟩:=zay HM.out.ri
   subst hvi
   have q0:=zaa HM.out.box 0 _ rfl
   have q1:=zaa HM.out.box 1 _ rfl
   have q2:=zaa HM.out.box 2 _ rfl
   have hbx:wr.heap[B+1]? = some (.cells #[.int .i64 0,.slice none 0 0,.slice none 0 0] 29 (0,0)):=HR.out.box.at' _ (.head _)
   have e0:=zaa hbx 0 _ rfl
   have e1:=zaa hbx 1 _ rfl
   have e2:=zaa hbx 2 _ rfl
   have fz0:=frozen_of (o:=0) hbx
   have fz1:=frozen_of (o:=1) hbx
   have fz2:=frozen_of (o:=2) hbx
   obtain⟨nn,hn1,hn2⟩:=HR.out.res
   have HE:=hid' (show m=make sh (T.mk op n s ks) by rw[←hn1,zjp hj])
   have g1:=grown_set wr (B+1) 0 (.int .i64 m.regs)
   have M1:=HM.out.other g1 hbx (by have:=HBM.out; omega) (by decide) (by decide) (by decide)
   have b1:=heap_setCell_same wr (B+1) 0 _ _ (.int .i64 m.regs) hbx
   have g2:=grown_set (wr.setCell ⟨B+1,0,none⟩ (.int .i64 m.regs)) (B+1) 1 (.slice pw m.ws.length cw)
   have M2:=M1.other g2 b1 (by have:=HBM.out; omega) (by decide) (by decide) (by decide)
   have b2:=heap_setCell_same (wr.setCell ⟨B+1,0,none⟩ (.int .i64 m.regs)) (B+1) 1 _ _ (.slice pw m.ws.length cw) b1
   have g3:=grown_set ((wr.setCell ⟨B+1,0,none⟩ (.int .i64 m.regs)).setCell ⟨B+1,1,none⟩ (.slice pw m.ws.length cw)) (B+1) 2 (.slice pi m.ins.length ci)
   have M3:=M2.other g3 b2 (by have:=HBM.out; omega) (by decide) (by decide) (by decide)
   have hbl:∀(W W':World) (k:Nat),W.grownBy W' (some k)→mb<k→mb≤W.heap.size→Below mb W W':=fun W W' k g h h2=>⟨g.os,g.tape,g.output,g.size,fun j hj=>g.block j (by omega) (fun e=>by cases e; omega)⟩
   have HFIN:=hid' (And.intro M3 (((HR.out.bel.trans (hbl _ _ _ g1 (by have:=HBM.out; omega) (Nat.le_of_lt HM.out.lt))).trans (hbl _ _ _ g2 (by have:=HBM.out; omega) (Nat.le_of_lt M1.lt))).trans (hbl _ _ _ g3 (by have:=HBM.out; omega) (Nat.le_of_lt M2.lt))))
   clear hJ1 hJ2 hJ3 hrw hbx hn1 hn2 hj g1 M1 b1 g2 M2 b2 g3 M3 hbl
   go_wp2_with fail
   refine bodyPost_ret (v:=.agg #[.int .i64 m.regs,.slice pw m.ws.length cw,.slice pi m.ins.length ci]) (by rw[zrq rfl]; go_simp) rfl ?_
   rw[←HE.out]
   exact⟨_,_,_,_,rfl,HFIN.out.1,HFIN.out.2⟩
  |cons y r=>
   obtain⟨x,J',rfl⟩:∃ x J',J=x::J':=by
    cases J with
    |nil=>rw[hj] at hJ1; cases hJ1
    |cons x J'=>exact⟨x,J',rfl⟩
   have hJ1':=hJ1
   rw[hj,List.map_cons,List.cons.injEq] at hJ1'
   obtain⟨rfl,hr⟩:=hJ1'
   obtain⟨g,o,cq,v',rfl,hsl,htl,hob⟩:=qex hJ2
   have hcell:=zom hJ2 rfl
   have hca:=hJ3 x (.head _)
   obtain⟨xj,xt,xp,xc⟩:=x
   obtain⟨xo,xn,xs,xk⟩:=xt
   simp only[Jb.v,T.op,T.n,T.s,T.ks] at hca hj
   have u0:wr.cell? ⟨g,o,none⟩=some (.int .i64 xj):=hcell 0 _ rfl
   have u1:wr.cell? ⟨g,o+1,none⟩=some (.int .i64 xo):=hcell 1 _ rfl
   have u2:wr.cell? ⟨g,o+2,none⟩=some (.int .i64 xn):=hcell 2 _ rfl
   have u3:wr.cell? ⟨g,o+3,none⟩=some (.string xs):=hcell 3 _ rfl
   have u4:wr.cell? ⟨g,o+4,none⟩=some (.slice xp xk.length xc):=hcell 4 _ rfl
   have m4:=zaa HM.out.box 4 _ rfl
   have hjo:=HR.out.st.job hj
   have hfit:=HR.out.st.fit hj
   have HJO:=hid' hjo
   have HFT:=hid' hfit
   have HNX:=hid' (HR.out.st.next hj sh)
   have HTT:=hid' (HR.out.st.tot hj sh)
   obtain⟨nn,hn1,hn2⟩:=HR.out.res
   have HRES:=hid' (show ∃ n',run sh n' (wait sh xj (T.mk xo xn xs xk) (zao m r))=make sh (T.mk op n s ks)∧Gf.tot (wait sh xj (T.mk xo xn xs xk) (zao m r)).jobs≤n' by
    have h1:=HR.out.st.tot hj sh
    cases nn with
    |zero=>omega
    |succ nn=>exact⟨nn,by rw[←hn1,znt hj],by omega⟩)
   have BN:=(Below.refl wr.heap.size wr).alloc (Nat.le_refl _) (.cells #[.int .i64 xj,.int .i64 xo,.int .i64 xn,.string xs,.slice xp xk.length xc] 104)
   have yn:=heap_alloc_new wr (.cells #[.int .i64 xj,.int .i64 xo,.int .i64 xn,.string xs,.slice xp xk.length xc] 104)
   have hMA:=HM.out.below BN
   obtain⟨z,cz,hz⟩:=zls htl
   subst hz
   have htl2:=zlr htl (grown_of_below BN none) (by cases(Value.slice z J'.length cz).ownBlock<;>simp)
   have s4:=heap_setCell_same (wr.alloc (.cells #[.int .i64 xj,.int .i64 xo,.int .i64 xn,.string xs,.slice xp xk.length xc] 104)) mb 4 _ _ (.slice z J'.length cz) hMA.box
   have gs:=grown_set (wr.alloc (.cells #[.int .i64 xj,.int .i64 xo,.int .i64 xn,.string xs,.slice xp xk.length xc] 104)) mb 4 (.slice z J'.length cz)
   have hrj:JbRow (mb+1) mb (wr.alloc (.cells #[.int .i64 xj,.int .i64 xo,.int .i64 xn,.string xs,.slice xp xk.length xc] 104)) (.slice z J'.length cz) r:=⟨J',hr,htl2,fun x hx=>(hJ3 x (.tail _ hx)).kept (BN.mono (Nat.le_of_lt HM.out.lt)) (Nat.le_refl _)⟩
   have hfz4:=frozen_of (o:=4) hMA.box
   have hm4:=zaa hMA.box 4 _ rfl
   have HMQ:=hid' (show MkAt mb sh (zao m r) vw vi (.slice z J'.length cz) kb5 _ from MkAt.reset (m':=zao m r) (kb':=kb5) 4 (.slice z J'.length cz) hMA.box rfl hMA.rw hMA.ri hrj hMA.kn hMA.kb)
   have HBQ:=hid' (show Below mb w _ from(HR.out.bel.trans (BN.mono (Nat.le_of_lt HM.out.lt))).trans (Below.setCell (p:=⟨mb,4,none⟩) (Below.refl mb _) (Nat.le_refl _) (.slice z J'.length cz)))
   have HBX:=hid' (show Bx mb [(B+1,#[.int .i64 0,.slice none 0 0,.slice none 0 0],29)] _ from⟨fun x hx=>box_grown gs (by have:=(HR.out.box.ok x hx).1; omega) ((HR.out.box.below BN).at' x hx),HR.out.box.ok⟩)
   have yn2:=box_grown gs (show wr.heap.size≠mb from by have:=HM.out.lt; omega) yn
   have HYN:=hid' yn2
   have HCX:=hid' (show CoreAt mb _ (T.mk xo xn xs xk) (.agg #[.int .i64 xo,.int .i64 xn,.string xs,.slice xp xk.length xc]) from hca.kept ((BN.mono (Nat.le_of_lt HM.out.lt)).trans (Below.setCell (p:=⟨mb,4,none⟩) (Below.refl mb _) (Nat.le_refl _) (.slice z J'.length cz))) (Nat.le_refl _))
   have jj1:(0:Int)<((J'.length+1:Nat):Int):=by omega
   have jj2:decide ((0:Int)<((J'.length+1:Nat):Int))=true:=decide_eq_true jj1
   have HJL:=hid' (show True from trivial)
   clear hJ1 hJ2 hJ3 hr htl htl2 hob hcell hca hjo hfit hn1 hn2 hj BN yn hMA s4 gs hrj yn2
   go_upto_region 6 with(fail)
   clear u0 u1 u2 u3 u4 m4 jj1 jj2
   obtain⟨nb,hnb⟩:∃ nb,Hid (wr.heap.size=nb):=⟨_,hid' rfl⟩
   simp only[hnb.out] at HYN ⊢
   go_upto_region 7 with(fail)
   clear hm4 hfz4 hsl
   generalize World.setCell _ _ _=w5 at *
   have o0:=zaa HYN.out 0 _ rfl
   have o1:=zaa HYN.out 1 _ rfl
   have o2:=zaa HYN.out 2 _ rfl
   have o3:=zaa HYN.out 3 _ rfl
   have o4:=zaa HYN.out 4 _ rfl
   have hfr:=HFT.out.1
   have HW:=hid' (qbk sh xj xo xn xs xk (zao m r) (m.ins.length+m.ws.length+pend r) mb kb5 vw vi (.slice z J'.length cz) xp xc w5 HJO.out.2.1 HJO.out.2.2.1 HJO.out.2.2.2 HCX.out HMQ.out HJO.out.1 hfr (by have h1:=HFT.out.2; have h2:=HX.out.2.2; omega))
   clear hfr
   go_wp2_with fail
   refine HW.out.mono ?_
   rintro e w6 ⟨⟨r6,rfl⟩,ub,hub,hl6⟩
   have HN6:=hid' (show MkRun (T.mk op n s ks) sh (8 * (T.mk op n s ks).size+1) mb (B+1) w (wait sh xj (T.mk xo xn xs xk) (zao m r)) w6 by
    obtain⟨vw6,vi6,vj6,kb6,m6, -⟩:=hl6.at'
    refine⟨HNX.out,HRES.out,⟨vw6,vi6,vj6,kb6,m6⟩,HBQ.out.trans hl6.kp.bel,⟨fun x hx=>?_,HBX.out.ok⟩⟩
    rw[List.mem_singleton] at hx
    subst hx
    have e:w5.heap[B+1]? = some (.cells #[.int .i64 0,.slice none 0 0,.slice none 0 0] 29 (0,0)):=HBX.out.at' _ (.head _)
    have h1:=HBM.out
    have h2:=zac e
    have e6:=hl6.kp.box (k:=B+1) (by omega) (fun u e=>by cases e; exact⟨by omega,by decide⟩) (by decide) (by decide) (by decide) e
    exact e6)
   clear hl6 HW o0 o1 o2 o3 o4 HMQ HBQ HBX HYN HCX HM HR
   go_wp2_with fail
   go_roundw
   case rel=>exact hid' ⟨_,HN6.out⟩
   case measure=>
    rw[←HMT.out]
    exact Nat.lt_of_le_of_lt (zta ⟨_,HN6.out,rfl⟩) (by have:=HTT.out; omega)
end Gf
end
section
open Go.RowKit
open Rw
set_option maxRecDepth 100000
namespace Gf
open Co Dn
theorem zsk {α:Type}{l m:List α}{n k:Nat}{x:α}(h:l.take n=m)(hx:m[k]? = some x):l[k]? = some x:=by
 rw[←h] at hx
 rw[List.getElem?_take] at hx
 split at hx
 ·exact hx
 ·cases hx
theorem zxv {base:Nat}{W:World}{v:Value}{L:List Gen.Wt}(h:zfv base W v L)(hf:∀(p:Nat) x,L[p]? = some x→WtFits x):WaitsAt W v L:=by
 obtain⟨h0,⟨rfl,hz⟩|⟨g,cap,cur,rfl,h2,h3,h4,h5,h6,h7⟩⟩:=h
 ·exact⟨none,0,by rw[hz],⟨by omega,by unfold maxLen; omega⟩,fun i w hi=>by have:=(List.getElem?_eq_some_iff.1 hi).1; omega⟩
 ·refine⟨_,cap,rfl,⟨h4,h5⟩,fun i w hi=>⟨g,0,rfl,zac h3,?_,hf i w hi⟩⟩
  have ha:=fun (j:Nat) (hj:j<5)=>cells_at wt5 5 (fun _=>rfl) L i w j hi hj
  have hc:=fun (j:Nat) (hj:j<5) (u:Value) (hu:(wt5 w)[j]? = some u)=>(show W.cell? ⟨g,0+i * 5+j,none⟩=some u by
   have:=zsk h7 ((ha j hj).trans hu)
   rw[Nat.zero_add]
   simp only[World.cell?,h3]
   rw[Array.getElem?_toList] at this
   simpa using this)
  exact⟨hc 0 (by omega) _ rfl,hc 1 (by omega) _ rfl,hc 2 (by omega) _ rfl,hc 3 (by omega) _ rfl,hc 4 (by omega) _ rfl⟩
theorem zzf {base:Nat}{W:World}{v:Value}{L:List Gen.Ix}(h:zfq base W v L)(hf:∀(p:Nat) x,L[p]? = some x→IxFits x):InsAt W v L:=by
 obtain⟨h0,⟨rfl,hz⟩|⟨g,cap,cur,rfl,h2,h3,h4,h5,h6,h7⟩⟩:=h
 ·exact⟨none,0,by rw[hz],⟨by omega,by unfold maxLen; omega⟩,fun i w hi=>by have:=(List.getElem?_eq_some_iff.1 hi).1; omega⟩
 ·refine⟨_,cap,rfl,⟨h4,h5⟩,fun i w hi=>⟨g,0,rfl,zac h3,?_,hf i w hi⟩⟩
  have ha:=fun (j:Nat) (hj:j<7)=>cells_at ix7 7 (fun _=>rfl) L i w j hi hj
  have hc:=fun (j:Nat) (hj:j<7) (u:Value) (hu:(ix7 w)[j]? = some u)=>(show W.cell? ⟨g,0+i * 7+j,none⟩=some u by
   have:=zsk h7 ((ha j hj).trans hu)
   rw[Nat.zero_add]
   simp only[World.cell?,h3]
   rw[Array.getElem?_toList] at this
   simpa using this)
  exact⟨hc 0 (by omega) _ rfl,hc 1 (by omega) _ rfl,hc 2 (by omega) _ rfl,hc 3 (by omega) _ rfl,hc 4 (by omega) _ rfl,hc 5 (by omega) _ rfl,hc 6 (by omega) _ rfl⟩
theorem qgk {mb kb:Nat}{sh:Bool}{m:Mk}{vw vi vj:Value}{W:World}(h:MkAt mb sh m vw vi vj kb W)(hf:Ff m)(hr:I64 m.regs):CdAt W (.agg #[.int .i64 m.regs,vw,vi]) m.code:=
 ⟨vw,vi,rfl,zxv h.rw hf.ws,zzf h.ri hf.ins,hr⟩
def zon (p:Int):Bool:=!(bits BinOp.and IntKind.i64 p 8 == 0)
noncomputable def zfr (t:T)(p:Int):Bool:=zon p && (!(make true (t.rw p)).over && Gen.right (make true (t.rw p)).code)
noncomputable def comp (t:T)(p:Int):Gen.Cd:=bif zfr t p then(make true (t.rw p)).code else(make false (t.rw p)).code
def zeo (t:T)(p:Int):Int:=if fits t p=true then(if 250<zdl t then 171 else 0) else 170
noncomputable def zbx (t:T)(p:Int):Gen.Cd:=if zeo t p=0 then comp t p else ⟨0,[],[]⟩
theorem zwg (W:World):CdAt W (.agg #[.int .i64 0,.slice none 0 0,.slice none 0 0]) ⟨0,[],[]⟩:=
 ⟨_,_,rfl,⟨none,0,rfl,⟨Nat.le_refl _,Nat.zero_le _⟩,fun i w h=>by cases h⟩,⟨none,0,rfl,⟨Nat.le_refl _,Nat.zero_le _⟩,fun i w h=>by cases h⟩,by show I64 0; unfold I64; omega⟩
theorem zre {t:T}{p:Int}(h:fits t p=true):t.good:=by
 unfold fits at h
 rw[Bool.and_eq_true] at h
 exact(check_good t).1 (by simpa using h.1)
def qfl (t:T)(p:Int)(w:World)(e:Ending)(w':World):Prop:=Below w.heap.size w w'∧∃ r vw vi,e=.returned (.tuple #[.agg #[.int .i64 r,vw,vi],.int .i64 (zeo t p)])∧CdAt w' (.agg #[.int .i64 r,vw,vi]) (zbx t p)
def set3 (W:World)(b:Nat)(x y z:Value):World:=((W.setCell ⟨b,0,none⟩ x).setCell ⟨b,1,none⟩ y).setCell ⟨b,2,none⟩ z
theorem zoo (W:World)(b:Nat)(x y z:Value):W.grownBy (set3 W b x y z) (some b):=grown_trans (grown_trans (grown_set W b 0 x) (grown_set _ b 1 y)) (grown_set _ b 2 z)
theorem zhz {n:Nat}{W0 W:World}{b:Nat}(h:Below n W0 W)(hb:n≤b)(x y z:Value):Below n W0 (set3 W b x y z):=
 ((Below.setCell (p:=⟨b,0,none⟩) h hb x).setCell (p:=⟨b,1,none⟩) hb y).setCell (p:=⟨b,2,none⟩) hb z
theorem zwf {mb kb b:Nat}{sh:Bool}{m:Mk}{vw vi vj:Value}{W:World}{cur:Array Value}(h:MkAt mb sh m vw vi vj kb W)(hf:Ff m)(hr:I64 m.regs)(e:W.heap[b]? = some (.cells cur 29 (0,0)))(x y z:Value):CdAt (set3 W b x y z) (.agg #[.int .i64 m.regs,vw,vi]) m.code:=
 ⟨vw,vi,rfl,zxv (show zfv (mb+1) _ vw m.ws from World.ownsRow.kept h.rw (zoo W b x y z) (zjs h.rw e (by decide))) hf.ws,zzf (show zfq (mb+1) _ vi m.ins from World.ownsRow.kept h.ri (zoo W b x y z) (zjs h.ri e (by decide))) hf.ins,hr⟩
set_option maxHeartbeats 8000000 in
theorem zvi (t:T)(v:Value)(p:Int)(w:World)(hv:CoreIn (fun b=>b<w.heap.size) w t v)(hsz:t.size≤2000000):
  Calls Tryz.prog 7 #[v,.int .i64 p] w (qfl t p w):=by
 obtain⟨op,n,s,q,ln,c,rfl,hop,hn,hs,hln⟩:=zbn hv
 have HV:=hid' hv
 have HSZ:=hid' hsz
 have B1:=(Below.refl w.heap.size w).alloc (Nat.le_refl _) (.cells #[.int .i64 op,.int .i64 n,.string s,.slice q ln c] 24)
 have y1:=heap_alloc_new w (.cells #[.int .i64 op,.int .i64 n,.string s,.slice q ln c] 24)
 have B2:=(Below.refl (w.heap.size+1) (w.alloc (.cells #[.int .i64 op,.int .i64 n,.string s,.slice q ln c] 24))).alloc (by simp) (.cells #[.int .i64 0,.slice none 0 0,.slice none 0 0] 29)
 have y2:=heap_alloc_new (w.alloc (.cells #[.int .i64 op,.int .i64 n,.string s,.slice q ln c] 24)) (.cells #[.int .i64 0,.slice none 0 0,.slice none 0 0] 29)
 simp only[World.size_alloc] at y2
 have z1:=(B2.block _ (by omega)).trans y1
 have HB1:=hid' (B1.trans (B2.mono (by omega)))
 have HC1:=hid' z1
 have HR1:=hid' y2
 clear B1 y1 B2 y2 z1 hop hn hs hln hv hsz
 go_enter Tryz.func7,Tryz.ntmps7
 go_upto_region 1 with(fail)
 obtain⟨B,hB⟩:∃ B,Hid (w.heap.size=B):=⟨_,hid' rfl⟩
 simp only[hB.out] at HC1 HR1 ⊢
 generalize World.alloc _ _=w1 at *
 have c0:=zaa HC1.out 0 _ rfl
 have c1:=zaa HC1.out 1 _ rfl
 have c2:=zaa HC1.out 2 _ rfl
 have c3:=zaa HC1.out 3 _ rfl
 have HD:=hid' (qfy (fun b=>b<w.heap.size) t _ p w1 (fun b h=>Nat.lt_of_lt_of_le h HB1.out.size) (HV.out.under HB1.out) HSZ.out)
 go_wp2_with fail
 refine HD.out.mono ?_
 rintro e w2 ⟨b2,va,rfl,ha⟩
 obtain⟨aop,an,ast,ap,al,ac,rfl, -⟩:=zbn ha
 have HB2:=hid' (HB1.out.trans (b2.mono HB1.out.size))
 have HC2:=hid' (zad b2 HC1.out)
 have HR2:=hid' (zad b2 HR1.out)
 have HA2:=hid' ha
 clear b2 ha c0 c1 c2 c3 HD HB1 HC1 HR1
 have BN:=(Below.refl w2.heap.size w2).alloc (Nat.le_refl _) (.cells #[.int .i64 aop,.int .i64 an,.string ast,.slice ap al ac] 24)
 have yn:=heap_alloc_new w2 (.cells #[.int .i64 aop,.int .i64 an,.string ast,.slice ap al ac] 24)
 have HB3:=hid' (HB2.out.trans (BN.mono HB2.out.size))
 have HC3:=hid' (zad BN HC2.out)
 have HR3:=hid' (zad BN HR2.out)
 have HA3:=hid' (HA2.out.under BN)
 have HX3:=hid' yn
 have HSA:=hid' (show w2.heap.size<(w2.alloc (.cells #[.int .i64 aop,.int .i64 an,.string ast,.slice ap al ac] 24)).heap.size from zac yn)
 clear BN yn
 go_upto_region 2 with(fail)
 obtain⟨A,hA⟩:∃ A,Hid (w2.heap.size=A):=⟨_,hid' rfl⟩
 simp only[hA.out] at HX3 HSA ⊢
 generalize World.alloc _ _=w3 at *
 clear HB2 HC2 HR2 HA2
 have r0:=zaa HR3.out 0 _ rfl
 have r1:=zaa HR3.out 1 _ rfl
 have r2:=zaa HR3.out 2 _ rfl
 have fz:∀ o,w3.frozen? ⟨B+1,o,none⟩=false:=fun o=>frozen_of HR3.out
 have c0:=zaa HC3.out 0 _ rfl
 have c1:=zaa HC3.out 1 _ rfl
 have c2:=zaa HC3.out 2 _ rfl
 have c3:=zaa HC3.out 3 _ rfl
 cases hfit:fits t p with
 |false=>
  have hE:optE t p=160:=by unfold optE; rw[hfit]; rfl
  have HE:=hid' (show zeo t p=170 by unfold zeo; rw[if_neg (by rw[hfit]; decide)])
  have HEC:=hid' (show zbx t p=⟨0,[],[]⟩ by unfold zbx; rw[if_neg (by rw[HE.out]; decide)])
  rw[hE]
  clear hE hfit
  go_wp2_with fail
  refine bodyPost_ret (v:=.tuple #[.agg #[.int .i64 0,.slice none 0 0,.slice none 0 0],.int .i64 170]) (by rw[results_cell_tmp rfl]; go_simp) rfl ?_
  exact⟨zhz HB3.out (by have:=hB.out; omega) _ _ _,0,_,_,by rw[HE.out],by rw[HEC.out]; exact zwg _⟩
 |true=>
  have hE:optE t p=0:=by unfold optE; rw[hfit]; rfl
  have hO:opt t p=t.rw p:=by unfold opt; rw[hfit]; rfl
  have hg:=zre hfit
  have hck:t.check=0:=(check_good t).2 hg
  have HG:=hid' hg
  have hg2:=zvv (p:=p) hg
  obtain⟨s1,s2⟩:=(zjd _).1 hg2.1
  have HU:=hid' (And.intro hg2.2.1 (And.intro s2 s1))
  have HFT:=hid' hfit
  rw[hE]
  rw[hO] at HA3
  have HCK:=hid' (zpl t _ w3 ((HV.out.under HB3.out).at' (Nat.le_refl _)) HSZ.out)
  rw[hck] at HCK
  have HMY:=hid' (fun (W:World) (b:Below w3.heap.size w3 W)=>qcr t W.heap.size _ W ((HV.out.under (HB3.out.trans (b.mono HB3.out.size))).at' (Nat.le_refl _)) (Nat.le_refl _) (by rw[HG.out.2.1]; decide) HSZ.out)
  clear hE hO hg hck hg2 s1 s2 hfit
  go_wp2_with fail
  refine HCK.out.mono ?_
  rintro e w4 ⟨rfl,b4⟩
  have HB4:=hid' (HB3.out.trans (b4.mono HB3.out.size))
  have HC4:=hid' (zad b4 HC3.out)
  have HR4:=hid' (zad b4 HR3.out)
  have HA4:=hid' (HA3.out.under b4)
  have HX4:=hid' (zad b4 HX3.out)
  have HM4:=hid' (HMY.out w4 b4)
  clear b4 c0 c1 c2 c3 r0 r1 r2 fz HB3 HC3 HR3 HA3 HX3 HCK HMY
  have c0:=zaa HC4.out 0 _ rfl
  have c1:=zaa HC4.out 1 _ rfl
  have c2:=zaa HC4.out 2 _ rfl
  have c3:=zaa HC4.out 3 _ rfl
  go_wp2_with fail
  refine HM4.out.mono ?_
  rintro e w5 ⟨rfl,b5⟩
  have HB5:=hid' (HB4.out.trans (b5.mono HB4.out.size))
  have HR5:=hid' (zad b5 HR4.out)
  have HA5:=hid' (HA4.out.under b5)
  have HX5:=hid' (zad b5 HX4.out)
  clear b5 c0 c1 c2 c3 HB4 HC4 HR4 HA4 HX4 HM4
  have r0:=zaa HR5.out 0 _ rfl
  have r1:=zaa HR5.out 1 _ rfl
  have r2:=zaa HR5.out 2 _ rfl
  have fz:∀ o,w5.frozen? ⟨B+1,o,none⟩=false:=fun o=>frozen_of HR5.out
  by_cases hm:250<zdl t
  ·have g1:decide (250<(zdl t:Int))=true:=decide_eq_true (by omega)
   have HE:=hid' (show zeo t p=171 by unfold zeo; rw[if_pos HFT.out,if_pos hm])
   have HEC:=hid' (show zbx t p=⟨0,[],[]⟩ by unfold zbx; rw[if_neg (by rw[HE.out]; decide)])
   have hm':(250:Int)<(zdl t:Int):=by omega
   go_wp2_with fail
   refine bodyPost_ret (v:=.tuple #[.agg #[.int .i64 0,.slice none 0 0,.slice none 0 0],.int .i64 171]) (by rw[results_cell_tmp rfl]; go_simp) rfl ?_
   exact⟨zhz HB5.out (by have:=hB.out; omega) _ _ _,0,_,_,by rw[HE.out],by rw[HEC.out]; exact zwg _⟩
  ·have g1:decide (250<(zdl t:Int))=false:=decide_eq_false (by omega)
   have HE:=hid' (show zeo t p=0 by unfold zeo; rw[if_pos HFT.out,if_neg hm])
   have HEC:=hid' (show zbx t p=comp t p by unfold zbx; rw[if_pos HE.out])
   have hm':¬(250:Int)<(zdl t:Int):=by omega
   obtain⟨ub,hub⟩:∃ b,Hid ((bits BinOp.and IntKind.i64 p 8 == 0)=b):=⟨_,hid' rfl⟩
   have hub':=hub.out
   go_upto_if 32 with(fail)
   go_cut [32] (fun bb wx=>True∧Hid (zfr t p=false∧Below w.heap.size w wx∧wx.heap[B+1]? = some (.cells #[.int .i64 0,.slice none 0 0,.slice none 0 0] 29 (0,0))∧CoreIn (fun b=>b<w.heap.size∨w1.heap.size≤b) wx (t.rw p) (.agg #[.int .i64 aop,.int .i64 an,.string ast,.slice ap al ac])∧wx.heap[A]? = some (.cells #[.int .i64 aop,.int .i64 an,.string ast,.slice ap al ac] 24 (0,0))))
   case first=>
    cases ub with
    |true=>
     go_wp2_with fail
     go_meet
     exact⟨trivial,by unfold zfr zon; rw[hub.out]; rfl,HB5.out,HR5.out,HA5.out,HX5.out⟩
    |false=>
     have HSB:=hid' (show zon p=true by unfold zon; rw[hub.out]; rfl)
     have BN:=(Below.refl w5.heap.size w5).alloc (Nat.le_refl _) (.cells #[.int .i64 0,.slice none 0 0,.slice none 0 0,.bool true,.slice none 0 0,.int .i64 0,.map none,.bool false] 66)
     have yn:=heap_alloc_new w5 (.cells #[.int .i64 0,.slice none 0 0,.slice none 0 0,.bool true,.slice none 0 0,.int .i64 0,.map none,.bool false] 66)
     have HB6:=hid' (HB5.out.trans (BN.mono HB5.out.size))
     have HR6:=hid' (zad BN HR5.out)
     have HA6:=hid' (HA5.out.under BN)
     have HX6:=hid' (zad BN HX5.out)
     have HM6:=hid' (zsz true (t.rw p) w5.heap.size _ _ HU.out.1 HU.out.2.1 HU.out.2.2 ((HA5.out.at' (Nat.le_refl _)).kept BN (Nat.le_refl _)) yn)
     have HBN:=hid' BN
     have HSZ6:=hid' (show B+1<w5.heap.size∧A<w5.heap.size from⟨zac HR5.out,zac HX5.out⟩)
     clear BN yn r0 r1 r2 fz
     go_upto_region 8 with(fail)
     obtain⟨mb,hmb⟩:∃ mb,Hid (w5.heap.size=mb):=⟨_,hid' rfl⟩
     simp only[hmb.out] at HM6 HSZ6 ⊢
     generalize World.alloc _ _=w6 at *
     clear HB5 HR5 HX5
     have x0:=zaa HX6.out 0 _ rfl
     have x1:=zaa HX6.out 1 _ rfl
     have x2:=zaa HX6.out 2 _ rfl
     have x3:=zaa HX6.out 3 _ rfl
     go_wp2_with fail
     refine HM6.out.mono ?_
     rintro e w7 ⟨vw,vi,vj,kb,rfl,hm7,b7⟩
     have hbx:∀(k:Nat) (o:Obj),k<mb→w6.heap[k]? = some o→w7.heap[k]? = some o:=fun k o hk e=>(b7.block k hk).trans e
     have HB7:=hid' (HB6.out.trans (b7.mono (by have h1:=HSZ6.out.1; have h2:=hB.out; omega)))
     have HR7:=hid' (hbx _ _ HSZ6.out.1 HR6.out)
     have HX7:=hid' (hbx _ _ HSZ6.out.2 HX6.out)
     have HA7:=hid' (show CoreIn (fun b=>b<w.heap.size∨w1.heap.size≤b) w7 (t.rw p) _ from HA5.out.keep fun b ho hl=>⟨ho,(b7.block b (by have:=hmb.out; omega)).trans (HBN.out.block b hl)⟩)
     clear x0 x1 x2 x3 HB6 HR6 HA6 HX6 HA5 HBN hbx b7 HM6
     have HM7:=hid' hm7
     clear hm7
     obtain⟨mff,mr0,mr1,mil,mwl⟩:=zvz true HU.out.1 HU.out.2.1 HU.out.2.2
     have HFF:=hid' mff
     have HRG:=hid' (show I64 (make true (t.rw p)).regs by unfold I64; omega)
     clear mff mr0 mr1 mil mwl
     obtain⟨M,hM⟩:∃ M,Hid (make true (t.rw p)=M):=⟨_,hid' rfl⟩
     simp only[hM.out] at HM7 HFF HRG ⊢
     have BQ:=(Below.refl w7.heap.size w7).alloc (Nat.le_refl _) (.cells #[.int .i64 M.regs,vw,vi] 29)
     have yq:=heap_alloc_new w7 (.cells #[.int .i64 M.regs,vw,vi] 29)
     have HB8:=hid' (HB7.out.trans (BQ.mono HB7.out.size))
     have HR8:=hid' (zad BQ HR7.out)
     have HX8:=hid' (zad BQ HX7.out)
     have HA8:=hid' (HA7.out.under BQ)
     have HM8:=hid' (HM7.out.below BQ)
     have HY8:=hid' yq
     obtain⟨pw,cw,hvw⟩:=zay HM8.out.rw
     obtain⟨pi,ci,hvi⟩:=zay HM8.out.ri
     subst hvw
     subst hvi
     clear BQ yq
     go_upto_region 9 with(fail)
     obtain⟨nq,hnq⟩:∃ nq,Hid (w7.heap.size=nq):=⟨_,hid' rfl⟩
     simp only[hnq.out] at HY8 ⊢
     generalize World.alloc _ _=w8 at *
     clear HB7 HR7 HA7 HX7 HM7
     have m7:=zaa HM8.out.box 7 _ rfl
     have y0:=zaa HY8.out 0 _ rfl
     have y1:=zaa HY8.out 1 _ rfl
     have y2:=zaa HY8.out 2 _ rfl
     cases hov:M.over with
     |true=>
      rw[hov] at m7
      have HSH:=hid' (show zfr t p=false by unfold zfr; rw[hM.out,hov,HSB.out]; rfl)
      go_wp2_with fail
      go_meet
      exact⟨trivial,HSH.out,HB8.out,HR8.out,HA8.out,HX8.out⟩
     |false=>
      rw[hov] at m7
      have HRT:=hid' (zgn _ M.code w8 (qgk HM8.out HFF.out HRG.out))
      have HOV:=hid' hov
      clear hov
      obtain⟨rt,hrt⟩:∃ rt,Hid (Gen.right M.code=rt):=⟨_,hid' rfl⟩
      rw[hrt.out] at HRT
      go_wp2_with fail
      refine HRT.out.mono ?_
      rintro e w9 ⟨rfl,b9⟩
      have HB9:=hid' (HB8.out.trans (b9.mono HB8.out.size))
      have HR9:=hid' (zad b9 HR8.out)
      have HX9:=hid' (zad b9 HX8.out)
      have HA9:=hid' (HA8.out.under b9)
      have HM9:=hid' (HM8.out.below b9)
      have HY9:=hid' (zad b9 HY8.out)
      clear b9 m7 y0 y1 y2 HB8 HR8 HA8 HX8 HM8 HY8 HRT
      cases rt with
      |false=>
       have HSH:=hid' (show zfr t p=false by unfold zfr; rw[hM.out,hrt.out,Bool.and_false,Bool.and_false])
       go_wp2_with fail
       go_meet
       exact⟨trivial,HSH.out,HB9.out,HR9.out,HA9.out,HX9.out⟩
      |true=>
       have HSH:=hid' (show zfr t p=true by unfold zfr; rw[hM.out,hrt.out,HOV.out,HSB.out]; rfl)
       have y0:=zaa HY9.out 0 _ rfl
       have y1:=zaa HY9.out 1 _ rfl
       have y2:=zaa HY9.out 2 _ rfl
       have r0:=zaa HR9.out 0 _ rfl
       have r1:=zaa HR9.out 1 _ rfl
       have r2:=zaa HR9.out 2 _ rfl
       have fz:∀ o,w9.frozen? ⟨B+1,o,none⟩=false:=fun o=>frozen_of HR9.out
       go_wp2_with fail
       refine bodyPost_ret (v:=.tuple #[.agg #[.int .i64 M.regs,.slice pw M.ws.length cw,.slice pi M.ins.length ci],.int .i64 0]) (by rw[results_cell_tmp rfl]; go_simp) rfl ?_
       refine⟨zhz HB9.out (by have:=hB.out; omega) _ _ _,M.regs,_,_,by rw[HE.out],?_⟩
       rw[HEC.out]
       unfold comp
       rw[HSH.out,hM.out]
       exact zwf HM9.out HFF.out HRG.out HR9.out _ _ _
   case rest=>
    obtain⟨-,HJ⟩:=hcut
    have BN:=(Below.refl wc.heap.size wc).alloc (Nat.le_refl _) (.cells #[.int .i64 0,.slice none 0 0,.slice none 0 0,.bool false,.slice none 0 0,.int .i64 0,.map none,.bool false] 66)
    have yn:=heap_alloc_new wc (.cells #[.int .i64 0,.slice none 0 0,.slice none 0 0,.bool false,.slice none 0 0,.int .i64 0,.map none,.bool false] 66)
    have HB6:=hid' (HJ.out.2.1.trans (BN.mono HJ.out.2.1.size))
    have HR6:=hid' (zad BN HJ.out.2.2.1)
    have HX6:=hid' (zad BN HJ.out.2.2.2.2)
    have HM6:=hid' (zsz false (t.rw p) wc.heap.size _ _ HU.out.1 HU.out.2.1 HU.out.2.2 ((HJ.out.2.2.2.1.at' (Nat.le_refl _)).kept BN (Nat.le_refl _)) yn)
    have HSZ6:=hid' (show B+1<wc.heap.size from zac HJ.out.2.2.1)
    have HSH:=hid' HJ.out.1
    have x0:=zaa HX6.out 0 _ rfl
    have x1:=zaa HX6.out 1 _ rfl
    have x2:=zaa HX6.out 2 _ rfl
    have x3:=zaa HX6.out 3 _ rfl
    clear BN yn r0 r1 r2 fz HB5 HR5 HA5 HX5 hub hub'
    go_wp2_with fail
    refine HM6.out.mono ?_
    rintro e w7 ⟨vw,vi,vj,kb,rfl,hm7,b7⟩
    have HB7:=hid' (HB6.out.trans (b7.mono (by have h1:=HSZ6.out; have h2:=hB.out; omega)))
    have HR7:=hid' ((b7.block _ HSZ6.out).trans HR6.out)
    obtain⟨mff,mr0,mr1,mil,mwl⟩:=zvz false HU.out.1 HU.out.2.1 HU.out.2.2
    have HFF:=hid' mff
    have HRG:=hid' (show I64 (make false (t.rw p)).regs by unfold I64; omega)
    clear mff mr0 mr1 mil mwl
    obtain⟨M,hM⟩:∃ M,Hid (make false (t.rw p)=M):=⟨_,hid' rfl⟩
    simp only[hM.out] at hm7 HFF HRG ⊢
    have HM7:=hid' hm7
    obtain⟨pw,cw,hvw⟩:=zay hm7.rw
    obtain⟨pi,ci,hvi⟩:=zay hm7.ri
    subst hvw
    subst hvi
    clear hm7 b7 x0 x1 x2 x3 HB6 HR6 HX6 HM6
    have r0:=zaa HR7.out 0 _ rfl
    have r1:=zaa HR7.out 1 _ rfl
    have r2:=zaa HR7.out 2 _ rfl
    have fz:∀ o,w7.frozen? ⟨B+1,o,none⟩=false:=fun o=>frozen_of HR7.out
    go_wp2_with fail
    refine bodyPost_ret (v:=.tuple #[.agg #[.int .i64 M.regs,.slice pw M.ws.length cw,.slice pi M.ins.length ci],.int .i64 0]) (by rw[results_cell_tmp rfl]; go_simp) rfl ?_
    refine⟨zhz HB7.out (by have:=hB.out; omega) _ _ _,M.regs,_,_,by rw[HE.out],?_⟩
    rw[HEC.out]
    unfold comp
    rw[HSH.out,hM.out]
    exact zwf HM7.out HFF.out HRG.out HR7.out _ _ _
end Gf
end
section
open Go.RowKit
namespace Sm
open Co Gen Dn Gf
theorem Match.snd {J:Nat→T→Nat→Nat→Prop}{hs:List (Int × Int)}{ls:List (T × Int)}{p1 p2:Nat}(h:Match J hs ls p1 p2):hs.map Prod.snd=ls.map Prod.snd:=by
 induction h with
 |nil=>rfl
 |cons h1 h2 ih=>rw[List.map_cons,List.map_cons,ih]
theorem Match.mem {J:Nat→T→Nat→Nat→Prop}{hs:List (Int × Int)}{ls:List (T × Int)}{p1 p2:Nat}(h:Match J hs ls p1 p2):∀ x∈hs,∃(j:Nat) (t:T) (a b:Nat),x.1=(j:Int)∧J j t a b∧(t,x.2)∈ls:=by
 induction h with
 |nil=>intro x hx; cases hx
 |cons h1 h2 ih=>
  intro x hx
  rcases List.mem_cons.1 hx with rfl|hx
  ·exact⟨_,_,_,_,rfl,h1,List.mem_cons_self ..⟩
  ·obtain⟨j,t,a,b,g1,g2,g3⟩:=ih x hx
   exact⟨j,t,a,b,g1,g2,List.mem_cons_of_mem _ g3⟩
theorem qea {sh:Bool}{t:T}(F:List Fd.Feed)(day:Int)(hR:Gen.right (make sh t).code=true)(hx:t.letter=99)(hd:t.depth≤200):
  ∃ k hs a1 a2,Vm.run (make sh t).code (Vm.env F day) 0 1000000 Vm.zeros Vm.st0=⟨hs,(den (Vm.env F day) t 1000000).2,k,false⟩∧Match (Jb sh (make sh t)) hs (den (Vm.env F day) t 1000000).1 a1 a2∧a1≤(make sh t).ins.length∧a2≤(make sh t).ws.length:=by
 obtain⟨-,hw, -,hl, -⟩:=zbl hR
 have hw:(make sh t).ws.length≤250:=hw
 have hl:(make sh t).ins.length≤16384:=hl
 obtain⟨k,hs,a1,a2,g1,g2,g3,g4,g5⟩:=qar hR (qab F day) hx hd 1000000
 have hlen:=g2.length fun j t p1 p2 h=>h.one
 have:=g1 [] [] 0 (by omega) (by show 0+hs.length≤250; omega)
 rw[List.nil_append,List.nil_append,Nat.zero_add] at this
 exact⟨k,hs,a1,a2,this,g2,g4,g5⟩
theorem ztp (c:Gen.Cd)(n:Int):Vm.entryOf c ⟨#[]⟩ 0 n=zbt c n:=by
 unfold Vm.entryOf
 rw[if_neg (by intro h; exact absurd h.1 (by decide))]
 unfold Vm.waitAt zbt
 cases c.waits[n.toNat]? <;> rfl
theorem zzu (ls:List (T × Int))(res:T × Int→R)(h:∀ x∈ls,res x=zdg x.1 x.2):(ls.flatMap fun x=>(res x).1)=ls∧(ls.flatMap fun x=>(res x).2)=[]:=by
 induction ls with
 |nil=>exact⟨rfl,rfl⟩
 |cons a l ih=>
  obtain⟨h1,h2⟩:=ih fun x hx=>h x (List.mem_cons_of_mem _ hx)
  rw[List.flatMap_cons,List.flatMap_cons,h a (List.mem_cons_self ..),h1,h2]
  exact⟨rfl,rfl⟩
theorem zzn {sh:Bool}{t:T}{day:Int}{F:List Fd.Feed}{st:Vm.St}(hR:Gen.right (make sh t).code=true)(hx:t.letter=99)(hd:t.depth≤200)(hday:(decide (0≤day) && decide (day≤73048))=true)(hF:Fd.right F=true)
  (hb:Vm.run (make sh t).code (Vm.env F day) 0 1000000 Vm.zeros Vm.st0=st):∃ st',Vm.step (make sh t).code st.holds day F ⟨#[]⟩ 0=some st'∧st'.holds.map Prod.snd=st.holds.map Prod.snd∧st'.out=[]∧st'.steps≤(make sh t).code.ins.length:=by
 obtain⟨k,hs,a1,a2,e1,g1,g2,g3⟩:=qea F day hR hx hd
 rw[e1] at hb
 subst hb
 obtain⟨-,hw, -,hl, -⟩:=zbl hR
 have hw:(make sh t).ws.length≤250:=hw
 have hl:(make sh t).ins.length≤16384:=hl
 have hlen:=g1.length fun j t p1 p2 h=>h.one
 obtain⟨k',hs',b1,b2,u1,u2,u3,u4,u5⟩:=qfi (c:=(make sh t).code) (E:=Vm.env F day) (entry:=Vm.entryOf (make sh t).code ⟨#[]⟩ 0) (res:=den (Vm.env F day)) (fun j t p1 p2 h=>⟨h.one,by
  rw[ztp]
  exact(zwb hR (qab F day) t.size j t p1 p2 (Nat.le_refl _) h).1.2⟩) g1
 obtain⟨f1,f2⟩:=zzu (den (Vm.env F day) t 1000000).1 (fun x=>den (Vm.env F day) x.1 x.2) (qah (Vm.env F day) t hx 1000000)
 rw[f1] at u2
 have hr:=u1 [] [] 0 (by omega) (by show 0+a2≤250; omega)
 rw[f2] at hr
 rw[List.nil_append,List.nil_append,Nat.zero_add] at hr
 have hr:Vm.all (make sh t).code (Vm.env F day) (Vm.entryOf (make sh t).code ⟨#[]⟩ 0) hs Vm.st0=⟨hs',[],k',false⟩:=hr
 have hbad:hs.any (Vm.holdBad (make sh t).code)=false:=by
  rw[List.any_eq_false]
  intro x hx'
  obtain⟨j,t',a,b,y1,y2,y3⟩:=g1.mem x hx'
  have hj:=y2.fact.2.2
  have hj:j<(make sh t).code.waits.length:=hj
  have hc:=qag F day t hx 1000000 (by decide) _ y3
  have hc:Num.clamp x.2=x.2:=hc
  unfold Vm.holdBad
  rw[hc]
  simp
  omega
 have hok:Vm.stepOk (make sh t).code hs day F ⟨#[]⟩ 0=true:=by
  unfold Vm.stepOk
  rw[hR,hday,hF,hbad]
  have h2:decide (hs.length≤250)=true:=decide_eq_true (by omega)
  rw[h2]
  decide
 refine⟨⟨hs',[],k',false⟩,?_,?_,rfl,?_⟩
 ·unfold Vm.step
  rw[hr,if_pos ⟨hok,rfl⟩]
 ·show hs'.map Prod.snd=hs.map Prod.snd
  rw[u2.snd,g1.snd]
 ·show k'≤(make sh t).ins.length
  omega
theorem qal {t:T}{p:Int}(h:zeo t p=0):∃ sh,comp t p=(make sh (t.rw p)).code∧(t.rw p).letter=99∧(t.rw p).depth≤200:=by
 unfold zeo at h
 split at h
 ·rename_i hf
  have hg2:=zvv (p:=p) (zre hf)
  obtain⟨s1,s2⟩:=(zjd _).1 hg2.1
  unfold comp
  cases hs:zfr t p with
  |true=>exact⟨true,rfl,hg2.2.1,s2⟩
  |false=>exact⟨false,rfl,hg2.2.1,s2⟩
 ·cases h
end Sm
end
section
open Go.RowKit
open Rw
set_option maxRecDepth 100000
namespace Gf
open Co
theorem qdf (v:Value)(c:Gen.Cd)(w:World)(h:CdAt w v c):Calls Tryz.prog 9 #[v] w (zaj (.int .i64 (bif Gen.right c then(c.ins.length:Int) else 0)) w):=by
 have hcd:=h
 obtain⟨vw,vi,rfl,⟨pw,cw,rfl, -⟩,⟨pi,ci,rfl, -⟩,hr⟩:=h
 have B0:=(Below.refl w.heap.size w).alloc (Nat.le_refl _) (.cells #[.int .i64 c.regs,.slice pw c.waits.length cw,.slice pi c.ins.length ci] 29)
 have HS:=hid' (show RSt w w.heap.size _ _ c _ from⟨B0,heap_alloc_new w _,hcd.below B0⟩)
 have c0:=zaa HS.out.cb 0 _ rfl
 have c1:=zaa HS.out.cb 1 _ rfl
 have c2:=zaa HS.out.cb 2 _ rfl
 clear hcd B0
 obtain⟨ok,hok⟩:∃ ok,Hid (Gen.right c=ok):=⟨_,hid' rfl⟩
 have HR:=hid' (zgn _ c _ HS.out.cd)
 rw[hok.out] at HR ⊢
 go_enter Tryz.func9,Tryz.ntmps9
 go_wp2_with fail
 refine HR.out.mono ?_
 rintro e w2 ⟨rfl,b2⟩
 have H2:=hid' (HS.out.below b2)
 have d2:=zaa H2.out.cb 2 _ rfl
 clear c0 c1 c2 b2
 cases ok with
 |true=>
  go_wp2_with fail
  go_ret
  exact⟨rfl,H2.out.bel⟩
 |false=>
  go_wp2_with fail
  go_ret
  exact⟨rfl,H2.out.bel⟩
end Gf
end
end Go.Proofs.YtanlmbbalamgkaaGreatDoor
