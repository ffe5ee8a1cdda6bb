/- Proved: lemmas and contracts of the functions that the law reaches, part 34 of 35: SmIdle2, SmPass, VmEvs, VmPassL. Conditions: as each states. -/
import Derived.Test.YtanlmbbalamgkaaGreatDoorVmp32
import Derived.Test.YtanlmbbalamgkaaGreatDoorVmp33
namespace Go.Proofs.YtanlmbbalamgkaaGreatDoor
set_option linter.unusedVariables false
set_option linter.unusedSimpArgs false
section
open Go.RowKit
namespace Sm
open Co Gen Dn Gf
def jl (E:Vm.Env)(lab:ByteArray)(wh:Int)(t:T)(f:Int):R:=
 if Vm.picksB lab wh=true∧t.op=31∧t.s=lab then(if wh=1 then zjt E t f else den E (t.kid 1) f) else den E t f
structure Hd (sh:Bool)(M:Mk)(L:List (Int × Int))(ls:List (T × Int)):Prop where
 mt:∃ a1 a2,Match (Jb sh M) L ls a1 a2∧a1≤M.ins.length∧a2≤M.ws.length
 cl:∀ x∈ls,Num.clamp x.2=x.2
theorem zqc {lab:ByteArray}{wh:Int}(h:Vm.picksB lab wh=true):lab≠txt0:=by
 rintro rfl;unfold Vm.picksB at h;rw[Bool.and_eq_true] at h;exact absurd h.1 (by decide)
theorem zut {sh:Bool}{M:Mk}{E:Vm.Env}{lab:ByteArray}{wh:Int}{j:Nat}{t:T}{p1 p2:Nat}(hR:Gen.right M.code=true)(he:EnvOk E)(h:Jb sh M j t p1 p2):jf M.code E (Jb sh M) (Vm.entryOf M.code lab wh (j:Int)) (jl E lab wh t) p1 p2:=by
 obtain⟨⟨-,h1⟩,w,hw,h2,h3⟩:=zml hR he t.size j t p1 p2 (Nat.le_refl _) h;have A3:Vm.waitAt M.code (j:Int)=w:=by unfold Vm.waitAt; rw[Int.toNat_natCast,hw]; rfl
 have A4:dq M.code (j:Int)=w.entry:=by unfold dq; rw[Int.toNat_natCast,hw]
 rw[A4] at h1;unfold Vm.entryOf;rw[A3];have A2:¬(Vm.picksB lab wh=true∧w.label=lab)→¬(Vm.picksB lab wh=true∧t.op=31∧t.s=lab)→jf M.code E (Jb sh M) (if Vm.picksB lab wh=true∧w.label=lab then(if wh=1 then w.first else w.second) else w.entry) (jl E lab wh t) p1 p2:=fun a b=>by
  rw[if_neg a,show jl E lab wh t=den E t from funext fun f=>by unfold jl; rw[if_neg b]];exact h1
 by_cases hp:Vm.picksB lab wh=true
 ·by_cases ho:t.op=31
  ·obtain⟨hl,hf,hs⟩:=h3 ho;by_cases A0:t.s=lab
   ·rw[if_pos ⟨hp,hl.trans A0⟩];by_cases A1:wh=1
    ·rw[if_pos A1,show jl E lab wh t=zjt E t from funext fun f=>by unfold jl; rw[if_pos ⟨hp,ho,A0⟩,if_pos A1]];exact hf
    ·rw[if_neg A1,show jl E lab wh t=den E (t.kid 1) from funext fun f=>by unfold jl; rw[if_pos ⟨hp,ho,A0⟩,if_neg A1]];exact hs
   ·exact A2 (fun a=>A0 (hl.symm.trans a.2)) (fun a=>A0 a.2.2)
  ·exact A2 (fun a=>zqc hp (a.2.symm.trans (h2 ho))) (fun a=>ho a.2.1)
 ·exact A2 (fun a=>hp a.1) (fun a=>hp a.1)
theorem Match.terms {J:Nat→T→Nat→Nat→Prop}{hs:List (Int × Int)}{ls:List (T × Int)}{p1 p2:Nat}(h:Match J hs ls p1 p2):∀ x∈ls,∃(j a b:Nat),J j x.1 a b:=by
 induction h with
 |nil=>intro x hx; cases hx
 |cons h1 h2 ih=>
  intro x hx;rcases List.mem_cons.1 hx with rfl|hx
  ·exact⟨_,_,_,h1⟩
  ·exact ih x hx
theorem zxj {t:T}(h:t.letter=99)(ho:t.op=31):(t.kid 0).letter=99∧(t.kid 1).letter=99:=by
 obtain⟨op,n,s,ks⟩:=t;have ho:op=31:=ho;rcases bz h with(⟨h1, -⟩|⟨h1, -⟩)|⟨h1, -⟩|⟨h1, -⟩|⟨h1,a,b,rfl,ha,hb⟩|⟨h1, -⟩|⟨h1, -⟩<;>first|omega|exact⟨ha,hb⟩
theorem zxf (F:List Fd.Feed)(day:Int){lab:ByteArray}{wh:Int}{t:T}(h:t.letter=99){f:Int}(hf:Num.clamp f=f):∀ x∈(jl (Vm.env F day) lab wh t f).1,Num.clamp x.2=x.2:=by
 unfold jl zjt;split
 ·rename_i hc;obtain⟨k0,k1⟩:=zxj h hc.2.1;split
  ·split
   ·exact ym F day _ k1 f hf
   ·exact ym F day _ k0 f hf
  ·exact ym F day _ k1 f hf
 ·exact ym F day _ h f hf
def okP (day:Int)(F:List Fd.Feed)(lab:ByteArray)(wh:Int):Prop:=(Vm.picksB lab wh || Vm.noPick lab wh)=true∧(decide (0≤day) && decide (day≤73048))=true∧Fd.right F=true
theorem zlw {sh:Bool}{M:Mk}{L:List (Int × Int)}{ls:List (T × Int)}(day:Int)(F:List Fd.Feed)(lab:ByteArray)(wh:Int)(hR:Gen.right M.code=true)(h:Hd sh M L ls):
  (okP day F lab wh→∃ st,Vm.step M.code L day F lab wh=some st∧st.out=(ls.flatMap fun x=>(jl (Vm.env F day) lab wh x.1 x.2).2)∧Hd sh M st.holds (ls.flatMap fun x=>(jl (Vm.env F day) lab wh x.1 x.2).1)) ∧
  (¬okP day F lab wh→Vm.step M.code L day F lab wh=none):=by
 obtain⟨⟨a1,a2,g1,g2,g3⟩,A2⟩:=h;obtain⟨-,hw, -,hl, -⟩:=du hR;have hw:M.ws.length≤250:=hw;have hl:M.ins.length≤16384:=hl;have A6:=g1.length fun j t p1 p2 h=>h.one;obtain⟨k',hs',b1,b2,u1,u2,u3,u4,u5⟩:=zxz (c:=M.code) (E:=Vm.env F day) (entry:=Vm.entryOf M.code lab wh) (res:=jl (Vm.env F day) lab wh) (fun j t p1 p2 h=>⟨h.one,zut hR (zrj F day) h⟩) g1;have hr:=u1 [] [] 0 (by omega) (by show 0+a2≤250; omega);rw[List.nil_append,List.nil_append,Nat.zero_add] at hr;have hr:Vm.all M.code (Vm.env F day) (Vm.entryOf M.code lab wh) L Vm.st0=⟨hs',_,k',false⟩:=hr;have A1:L.any (Vm.holdBad M.code)=false:=by
  rw[List.any_eq_false];intro x A4;obtain⟨j,t',a,b,y1,y2,y3⟩:=g1.mem x A4;have hj:=y2.fact.2.2;have hj:j<M.code.waits.length:=hj;have hc:Num.clamp x.2=x.2:=A2 _ y3;unfold Vm.holdBad;rw[hc];simp;omega
 have h2:decide (L.length≤250)=true:=decide_eq_true (by omega);constructor
 ·rintro⟨o1,o2,o3⟩;have A0:Vm.stepOk M.code L day F lab wh=true:=by
   unfold Vm.stepOk;rw[hR,o1,o2,o3,A1,h2];decide
  refine⟨⟨hs',ls.flatMap fun x=>(jl (Vm.env F day) lab wh x.1 x.2).2,k',false⟩,?_,rfl,⟨⟨_,_,u2,by omega,by omega⟩,fun x hx=>?_⟩⟩
  ·unfold Vm.step;rw[hr,if_pos ⟨A0,rfl⟩]
  ·obtain⟨y,hy,A3⟩:=List.mem_flatMap.1 hx;obtain⟨j,a,b,hJ⟩:=g1.terms y hy;exact zxf F day hJ.fact.1 (A2 y hy) x A3
 ·intro A5;have A0:¬Vm.stepOk M.code L day F lab wh=true:=by
   intro A0;unfold Vm.stepOk at A0;simp only[Bool.and_eq_true] at A0;exact A5 ⟨A0.1,by simp only[Bool.and_eq_true]; exact A0.2.2.1,A0.2.2.2.1⟩
  unfold Vm.step;rw[if_neg fun a=>A0 a.1]
theorem zxe {n:Nat}{F:List Fd.Feed}{day:Int}{lab:ByteArray}{wh:Int}(hF:Fd.Ok F){t u:T}{f:Int}(h:Lv (n+1) t u)(hf:Num.clamp f=f):Rel (Lv n) (jl (Vm.env F day) lab wh t f) (jl (Vm.env F day) lab wh u f):=by
 have h0:=h.1 F day f hF hf;unfold jl;by_cases hp:Vm.picksB lab wh=true
 ·by_cases ho:t.op=31∨u.op=31
  ·obtain⟨e1,e2,e3,e4,e5⟩:=h.2 ho;by_cases hl:t.s=lab
   ·rw[if_pos (show Vm.picksB lab wh=true∧t.op=31∧t.s=lab from⟨hp,e1,hl⟩),if_pos (show Vm.picksB lab wh=true∧u.op=31∧u.s=lab from⟨hp,e2,e3.symm.trans hl⟩)];by_cases hw:wh=1
    ·rw[if_pos hw,if_pos hw]; exact e5 F day f hF hf
    ·rw[if_neg hw,if_neg hw]; exact e4 F day f hF hf
   ·rw[if_neg fun a=>hl a.2.2,if_neg fun a=>hl (e3.trans a.2.2)]; exact h0
  ·rw[if_neg fun a=>ho (.inl a.2.1),if_neg fun a=>ho (.inr a.2.1)]; exact h0
 ·rw[if_neg fun a=>hp a.1,if_neg fun a=>hp a.1]; exact h0
theorem zva {n:Nat}{F:List Fd.Feed}{day:Int}{lab:ByteArray}{wh:Int}(hF:Fd.Ok F){l m:List (T × Int)}(h:Pw (Lv (n+1)) l m):(∀ x∈l,Num.clamp x.2=x.2) →
  (l.flatMap fun x=>(jl (Vm.env F day) lab wh x.1 x.2).2)=(m.flatMap fun x=>(jl (Vm.env F day) lab wh x.1 x.2).2)∧Pw (Lv n) (l.flatMap fun x=>(jl (Vm.env F day) lab wh x.1 x.2).1) (m.flatMap fun x=>(jl (Vm.env F day) lab wh x.1 x.2).1):=by
 induction h with
 |nil=>exact fun _=>⟨rfl,.nil⟩
 | @cons t u f l m a k ih=>
  intro hc;obtain⟨i1,i2⟩:=ih fun x hx=>hc x (List.mem_cons_of_mem _ hx);have r:=zxe (day:=day) (lab:=lab) (wh:=wh) hF a (hc (t,f) (List.mem_cons_self ..));rw[List.flatMap_cons,List.flatMap_cons,List.flatMap_cons,List.flatMap_cons,i1];refine⟨?_,r.pw.app i2⟩;show(jl (Vm.env F day) lab wh t f).2++_=(jl (Vm.env F day) lab wh u f).2++_
  rw[r.out]
def Pair (c1 c2:Cd)(L1 L2:List (Int × Int)):Prop:=∃ sh1 M1 ls1 sh2 M2 ls2,c1=Mk.code M1∧c2=Mk.code M2∧Gen.right c1=true∧Gen.right c2=true∧Hd sh1 M1 L1 ls1∧Hd sh2 M2 L2 ls2∧∀ n,Pw (Lv n) ls1 ls2
theorem Pair.len {c1 c2:Cd}{L1 L2:List (Int × Int)}(h:Pair c1 c2 L1 L2):L1.length=L2.length:=by
 obtain⟨A1,M1,A3,A0,M2,A2, -, -, -, -,⟨⟨_,_,h1,_,_⟩,_⟩,⟨⟨_,_,h2,_,_⟩,_⟩,h3⟩:=h;have e1:=congrArg List.length h1.snd;have e2:=congrArg List.length h2.snd;rw[List.length_map,List.length_map] at e1 e2;rw[e1,e2];exact(h3 0).len
theorem Hd.i64 {sh:Bool}{M:Mk}{L:List (Int × Int)}{ls:List (T × Int)}(hR:Gen.right M.code=true)(h:Hd sh M L ls):∀ x∈L,I64 x.1∧I64 x.2:=by
 obtain⟨⟨a1,a2,g1,g2,g3⟩,A1⟩:=h;obtain⟨-,hw, -,hl, -⟩:=du hR;have hw:M.ws.length≤250:=hw;intro x A0;obtain⟨j,t',a,b,y1,y2,y3⟩:=g1.mem x A0;have hj:=y2.fact.2.2;have hc:Num.clamp x.2=x.2:=A1 _ y3;have h5:=Num.clamp_le x.2;have h6:=Num.clamp_ge x.2;unfold I64;omega
theorem Pair.i64 {c1 c2:Cd}{L1 L2:List (Int × Int)}(h:Pair c1 c2 L1 L2):(∀ x∈L1,I64 x.1∧I64 x.2)∧∀ x∈L2,I64 x.1∧I64 x.2:=by
 obtain⟨A1,M1,A3,A0,M2,A2,rfl,rfl,r1,r2,h1,h2, -⟩:=h;exact⟨h1.i64 r1,h2.i64 r2⟩
theorem Pair.step {c1 c2:Cd}{L1 L2:List (Int × Int)}(h:Pair c1 c2 L1 L2)(day:Int)(F:List Fd.Feed)(lab:ByteArray)(wh:Int):
  (Vm.step c1 L1 day F lab wh=none∧Vm.step c2 L2 day F lab wh=none)∨∃ A1 A0,Vm.step c1 L1 day F lab wh=some A1∧Vm.step c2 L2 day F lab wh=some A0∧A1.out=A0.out∧Pair c1 c2 A1.holds A0.holds:=by
 obtain⟨A4,M1,A6,A3,M2,A5,rfl,rfl,r1,r2,h1,h2,h3⟩:=h;obtain⟨y1,n1⟩:=zlw day F lab wh r1 h1;obtain⟨y2,n2⟩:=zlw day F lab wh r2 h2;by_cases A2:okP day F lab wh
 ·right;obtain⟨A1,e1,o1,d1⟩:=y1 A2;obtain⟨A0,e2,o2,d2⟩:=y2 A2;have hF:=Fd.right_ok A2.2.2;have fl:=fun n=>zva (n:=n) (day:=day) (lab:=lab) (wh:=wh) hF (h3 (n+1)) h1.cl;refine⟨A1,A0,e1,e2,?_,A4,M1,_,A3,M2,_,rfl,rfl,r1,r2,d1,d2,fun n=>(fl n).2⟩;rw[o1,o2];exact(fl 0).1
 ·exact .inl ⟨n1 A2,n2 A2⟩
theorem zvo {t:T}{p:Int}(h:im t p=0):t.letter=99:=by
 unfold im at h;split at h
 ·rename_i hf;exact(wm hf).2.1
 ·cases h
theorem pair_begin {t:T}{p q:Int}(hp:im t p=0)(hq:im t q=0)(day:Int)(F:List Fd.Feed):
  (Vm.begin' (dk t p) day F=none∧Vm.begin' (dk t q) day F=none)∨∃ A2 A1,Vm.begin' (dk t p) day F=some A2∧Vm.begin' (dk t q) day F=some A1∧A2.out=A1.out∧Pair (dk t p) (dk t q) A2.holds A1.holds:=by
 obtain⟨A5,c1,x1,d1⟩:=zhh hp;obtain⟨A4,c2,x2,d2⟩:=zhh hq;have r1:=zfe hp;have r2:=zfe hq;have e1:dk t p=xi t p:=by unfold dk; rw[if_pos hp]
 have e2:dk t q=xi t q:=by unfold dk; rw[if_pos hq]
 rw[e1,e2];rw[c1] at r1 ⊢;rw[c2] at r2 ⊢;obtain⟨k1,A7,a1,b1,u1,m1,g1,l1⟩:=zwj F day r1 x1 d1;obtain⟨k2,A6,a2,b2,u2,m2,g2,l2⟩:=zwj F day r2 x2 d2;have A0:∀(c:Cd) (st:Vm.St),Gen.right c=true→Vm.run c (Vm.env F day) 0 1000000 Vm.zeros Vm.st0=st→st.over=false→Vm.begin' c day F=if(decide (0≤day) && decide (day≤73048))=true∧Fd.right F=true then some st else none:=fun c st hr A3 ho=>by
  unfold Vm.begin';rw[A3];unfold Vm.beginOk;by_cases hc:(decide (0≤day) && decide (day≤73048))=true∧Fd.right F=true
  ·rw[if_pos hc,if_pos ⟨by rw[hr,hc.1,hc.2]; decide,ho⟩]
  ·rw[if_neg hc,if_neg fun a=>hc (by
    have a:=a.1;simp only[Bool.and_eq_true] at a ⊢;exact a.2)]
 rw[A0 _ _ r1 u1 rfl,A0 _ _ r2 u2 rfl];by_cases hc:(decide (0≤day) && decide (day≤73048))=true∧Fd.right F=true
 ·right;rw[if_pos hc,if_pos hc];have hF:=Fd.right_ok hc.2;have hd:=fun n=>zxa (zvo hp) p q n F day 1000000 hF qg;exact⟨_,_,rfl,rfl,(hd 0).out,A5,_,_,A4,_,_,rfl,rfl,r1,r2,⟨⟨_,_,m1,g1,l1⟩,ym F day _ x1 _ qg⟩,⟨⟨_,_,m2,g2,l2⟩,ym F day _ x2 _ qg⟩,fun n=>(hd n).pw⟩
 ·left;rw[if_neg hc,if_neg hc];exact⟨rfl,rfl⟩
end Sm
end
section
open Go.RowKit
open Rw
namespace Gf
open Co
abbrev Ev:Type:=Int × List Fd.Feed × ByteArray × Int
def zwd (W:World)(v:Value)(l:List Ev):Prop:=∃ p c,v=.slice p l.length c∧(l.length≤c∧c≤maxLen)∧∀(i:Nat) (x:Ev),l[i]? = some x→∃ b off sv,p=some ⟨b,off,none⟩∧b<W.heap.size∧(W.cell? ⟨b,off+i * 4,none⟩=some (.int .i64 x.1)∧W.cell? ⟨b,off+i * 4+1,none⟩=some sv∧W.cell? ⟨b,off+i * 4+2,none⟩=some (.string x.2.2.1)∧W.cell? ⟨b,off+i * 4+3,none⟩=some (.int .i64 x.2.2.2))∧FeedsAt W sv x.2.1∧x.2.2.1.size≤2000000
theorem zjc (W:World):FeedsAt W (.slice none 0 0) []:=⟨none,0,rfl,⟨Nat.le_refl _,Nat.zero_le _⟩,fun i x h=>by simp at h⟩
theorem zq (W:World)(day:Int):TransSeen W (.slice none 0 0) day []:=⟨none,0,rfl,by simp,fun i x h=>by simp at h⟩
theorem tk {base:Nat}{W:World}{v:Value}{L:List (Int × Int)}(row:mq base W v L)(hI:∀ x∈L,I64 x.1∧I64 x.2):StampsAt W v L:=by
 obtain⟨p,k,e,A0⟩:=zgp (f:=zcr) (fun _=>rfl) row;refine⟨p,k,e,?_,fun i x hx=>?_⟩
 ·rcases row.2 with⟨e1,hz⟩|⟨g,cap,cur,e1,_,_,h4,h5,_⟩
  ·rw[e] at e1;obtain⟨-,e2,e3⟩:=Value.slice.inj e1;rw[e2,e3];exact⟨Nat.le_refl _,Nat.zero_le _⟩
  ·rw[e] at e1;obtain⟨-, -,rfl⟩:=Value.slice.inj e1;exact⟨h4,h5⟩
 ·obtain⟨g,rfl,hg,hj⟩:=A0 i x hx;exact⟨g,0,rfl,hg,⟨hj 0 _ (by omega) rfl,hj 1 _ (by omega) rfl⟩,hI x (List.mem_of_getElem? hx)⟩
structure Left (c1 c2:Gen.Cd)(day:Int)(W:World)(h1 o1 h2 o2:Value):Prop where
 out:∃ l,TransSeen W o1 day l∧TransSeen W o2 day l
 holds:∃ L1 L2 p1 k1 p2 k2,h1=.slice p1 L1.length k1∧h2=.slice p2 L1.length k2∧StampsAt W h1 L1∧StampsAt W h2 L2∧Sm.Pair c1 c2 L1 L2
theorem zmi {c1 c2:Gen.Cd}{day:Int}{base b2:Nat}{W1 W:World}{A0 A1:Vm.St}{h1 o1 h2 o2:Value}(hB:Below W1.heap.size W1 W)(k1:Vm.StOk A0)(k2:Vm.StOk A1)(r1:mq base W1 h1 A0.holds)(t1:TranRow base W1 o1 day A0.out)
  (r2:mq b2 W h2 A1.holds) (t2:TranRow b2 W o2 day A1.out) (ho:A0.out=A1.out) (hp:Sm.Pair c1 c2 A0.holds A1.holds):Left c1 c2 day W h1 o1 h2 o2:=by
 have l1:=k1.out;have m1:=k1.most;have l2:=k2.out;have m2:=k2.most;have e:=hp.len;obtain⟨i1,i2⟩:=hp.i64;have s1:=(tk r1 i1).below hB;have s2:=tk r2 i2;refine⟨⟨A0.out,(t1.seen (by omega)).below hB,?_⟩,?_⟩
 ·rw[ho]; exact t2.seen (by omega)
 ·obtain⟨p1,A3,e1, -⟩:=s1;obtain⟨p2,A2,e2, -⟩:=s2;refine⟨A0.holds,A1.holds,p1,A3,p2,A2,e1,by rw[e]; exact e2,(tk r1 i1).below hB,tk r2 i2,hp⟩
end Gf
end
section
open Go.RowKit
open Rw
set_option maxRecDepth 100000
namespace Gf
open Co
theorem zkb (t:T)(p:Int):im t p=0∨im t p=170∨im t p=171:=by
 unfold im;split
 ·split
  ·exact .inr (.inr rfl)
  ·exact .inl rfl
 ·exact .inr (.inl rfl)
set_option maxHeartbeats 16000000 in
theorem law_passes (t:T)(v:Value)(p q day:Int)(evs:List Ev)(ve:Value)(w:World)(hv:CoreIn (fun b=>b<w.heap.size) w t v)(G2:t.size≤2000000)(I1:zwd w ve evs):Calls Tryz.prog 4 #[v,.int .i64 p,.int .i64 q,.int .i64 day,ve] w (zon w):=by
 obtain⟨op,n,s,kp,ln,c,rfl,H9,hn,hs,I0⟩:=dw hv;have HV:=aa hv;have H2:=aa G2;obtain⟨ep,ec,rfl,⟨I2,H0⟩,C8⟩:=I1;have I9:=aa C8;have I3:(evs.length:Int)≤9223372036854775807:=by unfold maxLen at H0; omega
 have F7:=aa ((Below.refl w.heap.size w).alloc (Nat.le_refl _) (.cells #[.int .i64 op,.int .i64 n,.string s,.slice kp ln c] 24));have F5:=aa (heap_alloc_new w (.cells #[.int .i64 op,.int .i64 n,.string s,.slice kp ln c] 24));clear H9 hn hs I0 hv G2 C8 I2 H0;go_enter Tryz.func4,Tryz.ntmps4;go_upto_region 1 with(fail)
 obtain⟨B,hB⟩:∃ B,Hid (w.heap.size=B):=⟨_,aa rfl⟩
 simp only[hB.out] at F5 ⊢;generalize World.alloc _ _=w1 at *;go_wp2_with fail
 refine(zkn _).mono ?_;rintro e w2 ⟨rfl,b2⟩;have E1:=aa (F7.out.trans (b2.mono F7.out.size));have B7:=aa (ag b2 F5.out);clear b2 F7 F5;have c0:=ab B7.out 0 _ rfl;have c1:=ab B7.out 1 _ rfl;have c2:=ab B7.out 2 _ rfl;have c3:=ab B7.out 3 _ rfl;have C0:=HV.out.under E1.out;have D5:=aa (zdg t _ p w2 (C0.keep fun b h1 h2=>⟨h2,rfl⟩) H2.out);clear C0;go_wp2_with fail
 refine D5.out.mono ?_;rintro e w3 ⟨b3,r,vw,vi,rfl,E8⟩;obtain⟨vw',vi',ev,A8,A0,C3⟩:=E8;have E5:r=(dk t p).regs∧vw=vw'∧vi=vi':=by
  simp only[Value.agg.injEq,Array.mk.injEq,List.cons.injEq,Value.int.injEq,true_and,and_true] at ev;exact ev
 obtain⟨rfl,rfl,rfl⟩:=E5;have BN:=(Below.refl w3.heap.size w3).alloc (Nat.le_refl _) (.cells #[.int .i64 (dk t p).regs,vw,vi] 29);have yn:=heap_alloc_new w3 (.cells #[.int .i64 (dk t p).regs,vw,vi] 29);have E0:=aa ((E1.out.trans (b3.mono E1.out.size)).trans (BN.mono (Nat.le_trans E1.out.size b3.size)));have D8:=aa (ag BN (ag b3 B7.out));have E9:=aa yn;have H4:=aa (show CdAt _ _ (dk t p) from CdAt.below (c:=dk t p) ⟨_,_,rfl,A8,A0,C3⟩ BN);have A7:=A8;obtain⟨pw,cw,rfl, -⟩:=A7;have A9:=A0;obtain⟨pi,ci,rfl, -⟩:=A9;clear b3 ev A8 A0 C3 BN yn c0 c1 c2 c3 D5 E1 B7;go_upto_region 3 with(fail)
 obtain⟨N,hN⟩:∃ N,Hid (w3.heap.size=N):=⟨_,aa rfl⟩
 simp only[hN.out] at E9 ⊢;generalize World.alloc _ _=w4 at *;have c0:=ab D8.out 0 _ rfl;have c1:=ab D8.out 1 _ rfl;have c2:=ab D8.out 2 _ rfl;have c3:=ab D8.out 3 _ rfl;have C0:=HV.out.under E0.out;have D5:=aa (zdg t _ q w4 (C0.keep fun b h1 h2=>⟨h2,rfl⟩) H2.out);clear C0;go_wp2_with fail
 refine D5.out.mono ?_;rintro e w5 ⟨b5,r2,ww,wi,rfl,E8⟩;obtain⟨ww',wi',ev,A8,A0,C3⟩:=E8;have E5:r2=(dk t q).regs∧ww=ww'∧wi=wi':=by
  simp only[Value.agg.injEq,Array.mk.injEq,List.cons.injEq,Value.int.injEq,true_and,and_true] at ev;exact ev
 obtain⟨rfl,rfl,rfl⟩:=E5;have BN:=(Below.refl w5.heap.size w5).alloc (Nat.le_refl _) (.cells #[.int .i64 (dk t q).regs,ww,wi] 29);have yn:=heap_alloc_new w5 (.cells #[.int .i64 (dk t q).regs,ww,wi] 29);have A6:=aa ((E0.out.trans (b5.mono E0.out.size)).trans (BN.mono (Nat.le_trans E0.out.size b5.size)));have B3:=aa (ag BN (ag b5 E9.out));have E2:=aa yn;have D7:=aa ((H4.out.below b5).below BN);have D6:=aa (show CdAt _ _ (dk t q) from CdAt.below (c:=dk t q) ⟨_,_,rfl,A8,A0,C3⟩ BN);have A7:=A8;obtain⟨J4,J9,rfl, -⟩:=A7;have A9:=A0;obtain⟨J5,L0,rfl, -⟩:=A9;clear b5 ev A8 A0 C3 BN yn c0 c1 c2 c3 D5 E0 D8 E9 H4;go_upto_region 4 with(fail)
 obtain⟨N2,I4⟩:∃ N,Hid (w5.heap.size=N):=⟨_,aa rfl⟩
 simp only[I4.out] at E2 ⊢;generalize World.alloc _ _=w6 at *;obtain⟨ee,G9⟩:∃ ee,Hid (im t p=ee):=⟨_,aa rfl⟩
 obtain⟨ff,G7⟩:∃ ff,Hid (im t q=ff):=⟨_,aa rfl⟩
 have C8:=zkb t p;have G8:=zkb t q;rw[G9.out] at C8 ⊢;rw[G7.out] at G8 ⊢;rcases C8 with rfl|rfl|rfl;rotate_left
 ·go_wp2_with fail
  go_ret;exact⟨rfl,A6.out⟩
 ·go_wp2_with fail
  go_ret;exact⟨rfl,A6.out⟩
 rcases G8 with rfl|rfl|rfl;rotate_left
 ·go_wp2_with fail
  go_ret;exact⟨rfl,A6.out⟩
 ·go_wp2_with fail
  go_ret;exact⟨rfl,A6.out⟩
 have F2:=aa (Sm.pair_begin G9.out G7.out day []);have y0:=ab B3.out 0 _ rfl;have y1:=ab B3.out 1 _ rfl;have y2:=ab B3.out 2 _ rfl;have B9:=aa (zcb (dk t p) day [] _ _ _ w6 D7.out (zjc w6));have B8:=aa (fun W (b:Below w6.heap.size w6 W)=>zcb (dk t q) day [] _ _ _ W (D6.out.below b) (zjc W));have B6:=aa (fun W (b:Below w6.heap.size w6 W)=>And.intro (ab (ag b B3.out) 0 _ rfl) (And.intro (ab (ag b B3.out) 1 _ rfl) (And.intro (ab (ag b B3.out) 2 _ rfl) (And.intro (ab (ag b E2.out) 0 _ rfl) (And.intro (ab (ag b E2.out) 1 _ rfl) (ab (ag b E2.out) 2 _ rfl))))));rcases F2.out with⟨n1,n2⟩|⟨H6,H5,n1,n2,ho,A4⟩
 ·rw[n1] at B9;rw[n2] at B8;clear n1 n2 F2;go_wp2_with fail
  refine B9.out.mono ?_;rintro e w7 ⟨b7,he⟩;replace he:=he.trans (show Ending.returned oq=Ending.returned (.tuple #[.slice none 0 0,.slice none 0 0,.int .i64 0,.int .i64 180]) from rfl);subst he;have B2:=aa b7;clear b7 y0 y1 y2;obtain⟨-, -, -,z0,z1,z2⟩:=B6.out _ B2.out;go_wp2_with fail
  refine(B8.out _ B2.out).mono ?_;rintro e w8 ⟨b8,he⟩;replace he:=he.trans (show Ending.returned oq=Ending.returned (.tuple #[.slice none 0 0,.slice none 0 0,.int .i64 0,.int .i64 180]) from rfl);subst he;have F6:=aa (Below.more B2.out b8);clear b8 z0 z1 z2;go_wp2_with fail
  refine(pc _ _ day [] w8 (zq w8 day) (zq w8 day)).mono ?_;rintro e w9 ⟨rfl,b9⟩;have B1:=aa (Below.more A6.out (Below.more F6.out b9));clear b9 B9 B8 B6;go_wp2_with fail
  go_loopw [25] (fun iv wr=>iv=.int .i64 0∧Hid (Below w9.heap.size w9 wr)) (fun _ _=>0)
  case atStart=>exact⟨rfl,aa (Below.refl _ _)⟩
  case round=>
   obtain⟨rfl,HW⟩:=hrel;by_cases h0:(0:Int)<(evs.length:Int)
   ·have g0:decide ((0:Int)<(evs.length:Int))=true:=decide_eq_true h0;clear h0;go_wp2_with fail
    all_goals go_ret
    all_goals exact⟨rfl,Below.more B1.out HW.out⟩
   ·have g0:decide ((0:Int)<(evs.length:Int))=false:=decide_eq_false h0;clear h0;go_wp2_with fail
    all_goals go_ret
    all_goals exact⟨rfl,Below.more B1.out HW.out⟩
 ·rw[n1] at B9;rw[n2] at B8;have HO:=aa ho;have F1:=aa A4;clear n1 n2 F2 ho A4;go_wp2_with fail
  refine B9.out.mono ?_;rintro e w7 ⟨b7,C7,J3,J1,rfl,G6,G1⟩;have B2:=aa b7;have E4:=aa (And.intro C7 (And.intro G6 G1));clear b7 y0 y1 y2 C7 G6 G1;obtain⟨-, -, -,z0,z1,z2⟩:=B6.out _ B2.out;go_wp2_with fail
  refine(B8.out _ B2.out).mono ?_;rintro e w8 ⟨b8,C6,J2,J0,rfl,G5,G0⟩;have F6:=aa (Below.more B2.out b8);have B0:=aa (zmi b8 E4.out.1 C6 E4.out.2.1 E4.out.2.2 G5 G0 HO.out F1.out);clear b8 z0 z1 z2 C6 G5 G0 E4;obtain⟨lo,A2,A1⟩:=B0.out.out;have D0:=aa (pc _ _ day lo w8 A2 A1);clear A2 A1;obtain⟨L1,L2,p1,k1,p2,k2,rfl,rfl,C2,C1,A4⟩:=B0.out.holds;have D2:=aa C2;have D1:=aa C1;have F1:=aa A4;clear C2 C1 A4 B0 HO;go_wp2_with fail
  refine D0.out.mono ?_;rintro e w9 ⟨rfl,b9⟩;have B1:=aa (Below.more F6.out b9);have I7:=aa (D2.out.below b9);have I6:=aa (D1.out.below b9);have gne:((L1.length:Int) != (L1.length:Int))=false:=by simp
  clear b9 B9 B8 D0 D2 D1;go_wp2_with fail
  go_loopw [16,20,25] (fun lv mv iv wr=>∃(i:Nat) (L1 L2:List (Int × Int)),iv=.int .i64 (i:Int)∧i≤evs.length∧Hid (Below w9.heap.size w9 wr∧StampsAt wr lv L1∧StampsAt wr mv L2∧Sm.Pair (dk t p) (dk t q) L1 L2)) (fun _ _ iv _=>evs.length - (intOf iv).toNat)
  case atStart=>exact⟨0,L1,L2,rfl,Nat.zero_le _,aa ⟨Below.refl _ _,I7.out,I6.out,F1.out⟩⟩
  case round=>
   obtain⟨i,M1,M2,rfl,hi,HJ⟩:=hrel;by_cases A0:i<evs.length
   ·have j1:(0:Int)≤(i:Int):=by omega
    have j2:(i:Int)<(evs.length:Int):=by omega
    by_cases H1:i<50
    ·have I5:decide ((i:Int)<50)=true:=decide_eq_true (by omega);have J8:IntKind.i64.wrap ((i:Int)+1)=(i:Int)+1:=IntWalk.i64_in _ (by omega);obtain⟨x,hx⟩:∃ x,evs[i]? = some x:=⟨_,List.getElem?_eq_getElem A0⟩
     obtain⟨eb,eo,sv,rfl, -,⟨x0,x1,x2,x3⟩,E7,E6⟩:=I9.out i x hx;obtain⟨xd,xF,xl,xw⟩:=x;simp only at x0 x1 x2 x3 E7 E6;have C9:=aa (Below.more A6.out (Below.more B1.out HJ.out.1));replace x0:=ax C9.out _ _ x0;replace x1:=ax C9.out _ _ x1;replace x2:=ax C9.out _ _ x2;replace x3:=ax C9.out _ _ x3;have F4:=aa (E7.below C9.out);have H3:=aa E6;have HI:=aa A0;clear hx E7 E6 A0 H1;obtain⟨fp,fc,rfl, -⟩:=F4.out;have A3:=aa ((Below.refl wr.heap.size wr).alloc (Nat.le_refl _) (.cells #[.int .i64 xd,.slice fp xF.length fc,.string xl,.int .i64 xw] 48));have A5:=aa (heap_alloc_new wr (.cells #[.int .i64 xd,.slice fp xF.length fc,.string xl,.int .i64 xw] 48));obtain⟨lv,J7⟩:∃ lv,lv=u16:=⟨_,rfl⟩
     obtain⟨mv,J6⟩:∃ mv,mv=u20:=⟨_,rfl⟩
     go_upto_region 15 with(fail)
     obtain⟨R,hR⟩:∃ R,Hid (wr.heap.size=R):=⟨_,aa rfl⟩
     simp only[hR.out] at A5 ⊢;generalize World.alloc _ _=wb at *;rw[←hR.out] at A5;simp only[←hR.out];have D9:=aa (Below.more B1.out (Below.more HJ.out.1 A3.out));have D4:=aa (fun W (b:Below wb.heap.size wb W)=>And.intro (ab (ag b A5.out) 0 _ rfl) (And.intro (ab (ag b A5.out) 1 _ rfl) (And.intro (ab (ag b A5.out) 2 _ rfl) (ab (ag b A5.out) 3 _ rfl))));have B5:=aa (zin (dk t p) M1 xd xF xl xw _ _ u16 _ wb (D7.out.below D9.out) (HJ.out.2.1.below A3.out) (F4.out.below A3.out) H3.out);have B4:=aa (fun W (b:Below wb.heap.size wb W)=>zin (dk t q) M2 xd xF xl xw _ _ u20 _ W (D6.out.below (Below.more D9.out b)) ((HJ.out.2.2.1.below A3.out).below b) ((F4.out.below A3.out).below b) H3.out);have F0:=aa (HJ.out.2.2.2.step xd xF xl xw);obtain⟨y0,y1,y2, -, -, -⟩:=B6.out _ D9.out;obtain⟨e0,e1,e2,e3⟩:=D4.out _ (Below.refl _ _);clear x0 x1 x2 x3;rcases F0.out with⟨n1,n2⟩|⟨H6,H5,n1,n2,ho,hp⟩
     ·rw[n1] at B5;rw[n2] at B4;clear n1 n2 F0;go_wp2_with fail
      refine B5.out.mono ?_;rintro e wc ⟨bc,he⟩;replace he:=he.trans (show Ending.returned oq=Ending.returned (.tuple #[.slice none 0 0,.slice none 0 0,.int .i64 0,.int .i64 180]) from rfl);subst he;have HC:=aa bc;clear bc y0 y1 y2 e0 e1 e2 e3;obtain⟨-, -, -,z0,z1,z2⟩:=B6.out _ (Below.more D9.out HC.out);obtain⟨e0,e1,e2,e3⟩:=D4.out _ HC.out;go_wp2_with fail
      refine(B4.out _ HC.out).mono ?_;rintro e wd ⟨bd,he⟩;replace he:=he.trans (show Ending.returned oq=Ending.returned (.tuple #[.slice none 0 0,.slice none 0 0,.int .i64 0,.int .i64 180]) from rfl);subst he;have HD:=aa (Below.more HC.out bd);clear bd z0 z1 z2 e0 e1 e2 e3;go_wp2_with fail
      refine(pc _ _ xd [] wd (zq wd xd) (zq wd xd)).mono ?_;rintro e we ⟨rfl,be⟩;have HE:=aa (Below.more A3.out (Below.more HD.out be));have F3:=aa (show Below w9.heap.size w9 we∧StampsAt we u16 M1∧StampsAt we u20 M2∧Sm.Pair (dk t p) (dk t q) M1 M2 from⟨Below.more HJ.out.1 HE.out,HJ.out.2.1.below HE.out,HJ.out.2.2.1.below HE.out,HJ.out.2.2.2⟩);clear be B5 B4 D4 A3 A5;go_wp2_with fail
      go_roundw;case rel=>exact⟨i+1,M1,M2,by go_num,by have:=HI.out; omega,F3⟩
      case measure=>have:=HI.out; simp only[intOf]; omega
     ·rw[n1] at B5;rw[n2] at B4;have HO:=aa ho;have D3:=aa hp;clear n1 n2 F0 ho hp;go_wp2_with fail
      refine B5.out.mono ?_;rintro e wc ⟨bc,C5,vhc,voc,rfl,G4,F9⟩;have HC:=aa bc;have E3:=aa (And.intro C5 (And.intro G4 F9));clear bc y0 y1 y2 e0 e1 e2 e3 C5 G4 F9;obtain⟨-, -, -,z0,z1,z2⟩:=B6.out _ (Below.more D9.out HC.out);obtain⟨e0,e1,e2,e3⟩:=D4.out _ HC.out;go_wp2_with fail
      refine(B4.out _ HC.out).mono ?_;rintro e wd ⟨bd,C4,vhd,vod,rfl,G3,F8⟩;have HD:=aa (Below.more HC.out bd);have B0:=aa (zmi bd E3.out.1 C4 E3.out.2.1 E3.out.2.2 G3 F8 HO.out D3.out);clear bd z0 z1 z2 e0 e1 e2 e3 C4 G3 F8 E3;obtain⟨lo,A2,A1⟩:=B0.out.out;have D0:=aa (pc _ _ xd lo wd A2 A1);clear A2 A1;obtain⟨K1,K2,q1,H8,q2,H7,rfl,rfl,C2,C1,A4⟩:=B0.out.holds;have D2:=aa C2;have D1:=aa C1;have I8:=aa A4;clear C2 C1 A4 B0 HO D3;go_wp2_with fail
      refine D0.out.mono ?_;rintro e we ⟨rfl,be⟩;have HE:=aa (Below.more A3.out (Below.more HD.out be));have gnk:((K1.length:Int) != (K1.length:Int))=false:=by simp
      have F3:=aa (show Below w9.heap.size w9 we∧StampsAt we (.slice q1 K1.length H8) K1∧StampsAt we (.slice q2 K1.length H7) K2∧Sm.Pair (dk t p) (dk t q) K1 K2 from⟨Below.more HJ.out.1 HE.out,D2.out.below be,D1.out.below be,I8.out⟩);clear be B5 B4 D4 A3 A5 D0 D2 D1;go_wp2_with fail
      go_roundw;case rel=>exact⟨i+1,K1,K2,by go_num,by have:=HI.out; omega,F3⟩
      case measure=>have:=HI.out; simp only[intOf]; omega
    ·have I5:decide ((i:Int)<50)=false:=decide_eq_false (by omega);clear A0 H1;go_wp2_with fail
     go_ret;exact⟨rfl,Below.more A6.out (Below.more B1.out HJ.out.1)⟩
   ·obtain rfl:i=evs.length:=by omega
    have g9:decide (evs.length<evs.length)=false:=by simp
    have g8:decide ((evs.length:Int)<(evs.length:Int))=false:=by simp
    clear A0;go_wp2_with fail
    go_ret;exact⟨rfl,Below.more A6.out (Below.more B1.out HJ.out.1)⟩
end Gf
end
end Go.Proofs.YtanlmbbalamgkaaGreatDoor
