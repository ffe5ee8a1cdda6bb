/- Proved: lemmas and contracts of the functions that the law reaches, part 25 of 36: SmObs4, SmCon, GfRight, SmCon2, SmWait, SmWait2, GfRight2, SmJobs, SmSem, SmAll, SmCl. Conditions: as each states. -/
import Derived.Test.YtanlmbbalamgkaaGreatDoorVmi20
import Derived.Test.YtanlmbbalamgkaaGreatDoorVmi24
namespace Go.Proofs.YtanlmbbalamgkaaGreatDoor
set_option linter.unusedVariables false
set_option linter.unusedSimpArgs false
section
open Go.RowKit
namespace Sm
open Co Gen Dn Gf
theorem znj (sh:Bool)(v:Val)(m:Mk)(u:List Nat):m.next≤(zak sh v m u).2.1.next:=by
 unfold zak
 split
 ·exact Int.le_refl _
 ·show m.next≤m.next+1; omega
theorem zks (sh:Bool)(d:Nat)(t:T)(m:Mk)(u:List Nat):Fz m.ins.length m.ins (obs sh d t m u).2.1:=zsw sh d t m u _ _ (fun p _=>rfl) (Nat.le_refl _)
theorem znk (sh:Bool)(v:Val)(m:Mk)(u:List Nat):Fz m.ins.length m.ins (zak sh v m u).2.1:=zhj sh v u (fun p _=>rfl) (Nat.le_refl _)
section
variable {c:Cd}{E:Vm.Env}{sh:Bool}{G:Int→Prop}{m:Mk}{f:Int}{r:List Int}{u:List Nat}{d:Nat}
theorem ObSem.ahead {m1:Mk}{r1:List Int}{k1:Nat}{o:Ob}{ov:Option Int}(hs:Steps c E m.ins.length f r m1.ins.length f r1 k1)(hk:k1+m.ins.length≤m1.ins.length)(hp:∀ x,0≤x→x<m.next→Vm.reg r1 x=Vm.reg r x)(hn:m.next≤m1.next)(hn2:m1.next≤o.2.1.next)
  (h:ObSem c E sh (Gn G m m1) m1 o f r1 ov):ObSem c E sh G m o f r ov:=by
 cases ov with
 |none=>exact Lost.ahead (m0:=m) h hs hk
 |some y=>
  obtain⟨k2,r2,s2,b2,g2,p2,v2,kn2,gn2⟩:=h
  have hg:∀ x,Gn (Gn G m m1) m1 o.2.1 x→Gn G m o.2.1 x:=fun x hx=>by
   rcases hx with(hx|hx)|hx
   ·exact .inl hx
   ·exact .inr (by omega)
   ·exact .inr (by omega)
  exact⟨k1+k2,r2,hs.trans s2,by omega,g2,fun x hx hx2=>by rw[p2 x hx (by omega),hp x hx hx2],v2,kn2.mono hg,hg _ gn2⟩
theorem zds {m1:Mk}{r1:List Int}(h:Fine c E sh G m r)(hn:m.next≤m1.next)(hl:r1.length=256)(hk:KnOk sh E (Gn G m m1) m1.known r1):Fine c E sh (Gn G m m1) m1 r1:=⟨by have:=h.nx; omega,fun x hx=>by
 have:=h.nx
 rcases hx with hx|hx
 ·have:=h.g x hx; omega
 ·omega,hl,hk⟩
theorem zot (hR:Gen.right c=true)(he:EnvOk E){q:Mk}{v:Val}{r1:List Int}{k1:Nat}{y:Int}{u':List Nat}(hv:1≤v.op∧v.op≤17)(h0:0≤m.next)(hs:Steps c E m.ins.length f r q.ins.length f r1 k1)(hb:k1+m.ins.length≤q.ins.length)(hl:r1.length=256)
  (hp:∀ x,0≤x→x<m.next→Vm.reg r1 x=Vm.reg r x) (hy:vval E v r1=some y) (ha:Ag c m.ins.length ((q.lay (v.ix m.next)).free false (m.next+1))):Got c E false G m (m.next,(q.lay (v.ix m.next)).free false (m.next+1),u') f r y:=by
 obtain⟨z,hz, -⟩:=ha q.ins.length (v.ix m.next) (by omega) (by rw[zdd]; exact zbp _ _)
 have hA:0≤m.next∧m.next<256:=(zkz hR hz).1 (by
  show useA v.op=true
  unfold useA
  simp only[Bool.and_eq_true,decide_eq_true_eq,Bool.or_eq_true]
  omega)
 have hlen:((q.lay (v.ix m.next)).free false (m.next+1)).ins.length=q.ins.length+1:=by rw[zbc,zae]
 refine⟨k1+1,Vm.setReg r1 m.next y,?_,?_,zhy hl,fun x hx hx2=>?_,zkp hl hA,(fun e=>by cases e),.inr ⟨Int.le_refl _,by show m.next<m.next+1; omega⟩⟩
 ·show Steps c E m.ins.length f r (((q.lay (v.ix m.next)).free false (m.next+1)).ins.length:Int) f _ _
  rw[hlen]
  exact hs.trans (Steps.one hz (zwj he hv hy))
 ·show _≤((q.lay (v.ix m.next)).free false (m.next+1)).ins.length
  omega
 ·rw[zgb h0 hx (by omega)]; exact hp x hx hx2
theorem zjt (hR:Gen.right c=true)(he:EnvOk E):∀ d,zpp c E sh f d:=by
 intro d
 induction d with
 |zero=>intro t m u G r _ hd; have:=zfc t; omega
 |succ d ih=>
  intro t m u G r ht hd hf ha
  obtain⟨op,n,s,ks⟩:=t
  have hkd:∀ k∈ks,k.depth≤d:=fun k hk=>by
   have h1:=zcy hk
   rw[T.depth] at hd
   omega
  rcases zdj ht with h1|⟨rfl,h2⟩|⟨rfl,h2⟩|⟨h1,a,rfl,hA, -⟩|⟨h1,a,b,rfl,hA,hB⟩|⟨rfl,a,b,b2,rfl,hA,hB,hC⟩|⟨h1,a,b,rfl,hA,hB⟩
  ·rw[zgt (t:=.mk op n s ks) h1] at ha ⊢
   rw[zub h1]
   have:=zgi (f:=f) (u:=u) hR he (v:=⟨1,n,txt0,0,0⟩) ⟨by show(1:Int)≤1; omega,by show(1:Int)≤17; omega⟩ hf (fun h=>absurd rfl h.1) (fun h=>absurd rfl h.1.1) ha
   rwa [show vval E ⟨1,n,txt0,0,0⟩ r=some n from if_pos rfl] at this
  ·rw[zio (t:=.mk 4 n s ks) rfl] at ha ⊢
   rw[qap]
   have:=zgi (f:=f) (u:=u) hR he (v:=⟨2,n,s,0,0⟩) ⟨by show(1:Int)≤2; omega,by show(2:Int)≤17; omega⟩ hf (fun h=>absurd rfl h.2.1) (fun h=>absurd rfl h.1.2.1) ha
   rwa [show vval E ⟨2,n,s,0,0⟩ r=E.feed s n from rfl] at this
  ·rw[zjv (t:=.mk 5 n s ks) rfl] at ha ⊢
   rw[zua]
   have:=zgi (f:=f) (u:=u) hR he (v:=⟨3,n,txt0,0,0⟩) ⟨by show(1:Int)≤3; omega,by show(3:Int)≤17; omega⟩ hf (fun h=>absurd rfl h.2.2) (fun h=>absurd rfl h.1.2.2) ha
   rwa [show vval E ⟨3,n,txt0,0,0⟩ r=some (E.now n) from rfl] at this
  ·have hpl:6≤op∧op≤21∧op≠15∧op≠16:=by omega
   obtain⟨o,ho⟩:∃ o,obs sh d a m u=o:=⟨_,rfl⟩
   have e:obs sh (d+1) (.mk op n s [a]) m u=if sh=true then zak sh ⟨zah op,0,txt0,o.1,0⟩ o.2.1 o.2.2 else(o.1,(o.2.1.lay ⟨zah op,o.1,o.1,0,0,txt0,0⟩).free sh (m.next+1),o.2.2):=by
    rw[zfs (t:=.mk op n s [a]) hpl,zdq (a:=a) (by simp[T.ks]) kid0 ho]; rfl
   rw[e] at ha ⊢
   have hl:=zap sh d a m u
   have hn:=zdv sh d a m u hA (hkd a (by simp))
   have hs:=ih a m u G r hA (hkd a (by simp)) hf
   rw[ho] at hl hs hn
   have hop:zah op=4∨zah op=12:=h1.elim (fun h=>.inl (by rw[h]; rfl)) (fun h=>.inr (by rw[h]; rfl))
   have hvv:∀ r,vval E ⟨zah op,0,txt0,o.1,0⟩ r=some (E.rk (zah op) (Vm.reg r o.1) 0):=fun r=>by
    unfold vval
    simp only
    rw[if_neg (by omega),if_neg (by omega),if_neg (by omega),if_pos hop]
   rw[ztz h1]
   cases sh with
   |true=>
    rw[if_pos rfl] at ha ⊢
    have g1:Ag c m.ins.length o.2.1:=ha.sub (Nat.le_refl _) fun p _ hp=>znk true _ _ _ p hp
    have hs:=hs g1
    have hw:=zfi true ⟨zah op,0,txt0,o.1,0⟩ o.2.1 o.2.2
    cases hv:bval E a with
    |none=>
     rw[hv] at hs
     refine(show Lost c E m o.2.1 o.2.2 f r from hs).more hw fun p hp=>?_
     unfold zak
     split
     ·exact hp
     ·show p∈(if zah op=2 then o.2.2++[o.2.1.ins.length] else o.2.2)
      rw[if_neg (by omega)]; exact hp
    |some x=>
     rw[hv] at hs
     obtain⟨k1,r1,s1,b1,q1,p1,v1,kn1,gn1⟩:=hs
     have:=zgi (f:=f) (u:=o.2.2) hR he (v:=⟨zah op,0,txt0,o.1,0⟩) (by show 1≤zah op∧zah op≤17; omega) (zds hf hn q1 kn1) (fun _=>gn1) (fun h=>absurd hop (by have h1:=h.2.1; have h2:=h.2.2; exact fun h=>h.elim h1 h2)) (ha.sub (by omega) fun p _ _=>rfl)
     rw[hvv,v1] at this
     exact this.ahead s1 b1 p1 hn (znj _ _ _ _)
   |false=>
    rw[if_neg (by decide)] at ha ⊢
    have e1:o.1=m.next:=by rw[←ho]; exact(zmb d a m u hA (hkd a (by simp))).1
    have g1:Ag c m.ins.length o.2.1:=ha.sub (Nat.le_refl _) fun p _ hp=>by rw[zdd,zbo _ _ hp]
    have hs:=hs g1
    cases hv:bval E a with
    |none=>
     rw[hv] at hs
     exact(show Lost c E m o.2.1 o.2.2 f r from hs).more (by show _≤((o.2.1.lay _).free false _).ins.length; rw[zbc,zae]; omega) fun p hp=>hp
    |some x=>
     rw[hv] at hs
     obtain⟨k1,r1,s1,b1,q1,p1,v1,kn1,gn1⟩:=hs
     have hy:=hvv r1
     rw[v1] at hy
     rw[e1] at hy ha ⊢
     exact zot hR he (v:=⟨zah op,0,txt0,m.next,0⟩) (by show 1≤zah op∧zah op≤17; omega) hf.nx s1 b1 q1 p1 hy ha
  ·rcases h1 with rfl|rfl
   ·exact qfh hR he ih (zbd hA) hB (hkd a (by simp)) (hkd b (by simp)) hf ha
   ·exact qfn hR he ih (zbd hA) hB (hkd a (by simp)) (hkd b (by simp)) hf ha
  ·exact qfw hR he ih (zbd hA) hB hC (hkd a (by simp)) (hkd b (by simp)) (hkd b2 (by simp)) hf ha
  ·have hpl:6≤op∧op≤21∧op≠15∧op≠16:=by unfold zcv at h1; omega
   obtain⟨o,ho⟩:∃ o,obs sh d a m u=o:=⟨_,rfl⟩
   obtain⟨q,hq⟩:∃ q,obs sh d b o.2.1 o.2.2=q:=⟨_,rfl⟩
   have e:obs sh (d+1) (.mk op n s [a,b]) m u=if sh=true then zak sh ⟨zah op,0,txt0,o.1,q.1⟩ q.2.1 q.2.2 else(o.1,(q.2.1.lay ⟨zah op,o.1,o.1,q.1,0,txt0,0⟩).free sh (m.next+1),q.2.2):=by
    rw[zfs (t:=.mk op n s [a,b]) hpl,zdp (a:=a) (b:=b) (by simp[T.ks]) kid0 ho kid1 hq]; rfl
   rw[e] at ha ⊢
   have hl:=zap sh d a m u
   have hl2:=zap sh d b o.2.1 o.2.2
   have hn:=zdv sh d a m u hA (hkd a (by simp))
   have hn2:=zdv sh d b o.2.1 o.2.2 hB (hkd b (by simp))
   have hs:=ih a m u G r hA (hkd a (by simp)) hf
   have kp:=zks sh d b o.2.1 o.2.2
   have su:=zvx sh d b o.2.1 o.2.2
   rw[ho] at hl hs hn
   rw[hq] at hl2 hn2 kp su
   have hop:=qcm h1
   have hvv:∀ r,vval E ⟨zah op,0,txt0,o.1,q.1⟩ r=some (E.rk (zah op) (Vm.reg r o.1) (Vm.reg r q.1)):=fun r=>by
    unfold vval
    simp only
    rw[if_neg (by omega),if_neg (by omega),if_neg (by omega),if_neg (by omega)]
   rw[zty h1]
   -- up to the operation
   have key:∀(hg:Ag c m.ins.length q.2.1),∀(F:Mk) (u':List Nat),q.2.1.ins.length≤F.ins.length→(∀ p∈q.2.2,p∈u') →
     ((bval E a=none∨(∃ x,bval E a=some x∧bval E b=none))∧Lost c E m F u' f r) ∨
     (∃ x y k r1,bval E a=some x∧bval E b=some y∧Steps c E m.ins.length f r q.2.1.ins.length f r1 k∧k+m.ins.length≤q.2.1.ins.length∧r1.length=256∧(∀ x,0≤x→x<m.next→Vm.reg r1 x=Vm.reg r x)∧Vm.reg r1 o.1=x∧Vm.reg r1 q.1=y∧KnOk sh E (Gn G m q.2.1) q.2.1.known r1∧Gn G m q.2.1 o.1∧Gn G m q.2.1 q.1):=by
    intro hg F u' hF hu
    have g1:Ag c m.ins.length o.2.1:=hg.sub (Nat.le_refl _) fun p _ hp=>kp p hp
    have g2:Ag c o.2.1.ins.length q.2.1:=hg.sub (by omega) fun p _ _=>rfl
    have hs:=hs g1
    cases hv:bval E a with
    |none=>
     rw[hv] at hs
     exact .inl ⟨.inl rfl,(show Lost c E m o.2.1 o.2.2 f r from hs).more (by omega) fun p hp=>hu p (su p hp)⟩
    |some x=>
     rw[hv] at hs
     obtain⟨k1,r1,s1,b1,q1,p1,v1,kn1,gn1⟩:=hs
     have ff:=zds hf hn q1 kn1
     have hs2:=ih b o.2.1 o.2.2 _ r1 hB (hkd b (by simp)) ff
     rw[hq] at hs2
     have hs2:=hs2 g2
     cases hw:bval E b with
     |none=>
      rw[hw] at hs2
      exact .inl ⟨.inr ⟨x,rfl,rfl⟩,((show Lost c E o.2.1 q.2.1 q.2.2 f r1 from hs2).ahead (m0:=m) s1 b1).more hF hu⟩
     |some y=>
      rw[hw] at hs2
      obtain⟨k2,r2,s2,b2,q2,p2,v2,kn2,gn2⟩:=hs2
      have hgg:∀ x,Gn (Gn G m o.2.1) o.2.1 q.2.1 x→Gn G m q.2.1 x:=fun x hx=>by
       rcases hx with(hx|hx)|hx
       ·exact .inl hx
       ·exact .inr (by omega)
       ·exact .inr (by omega)
      have ho1:=ff.g _ gn1
      exact .inr ⟨x,y,k1+k2,r2,rfl,rfl,s1.trans s2,by omega,q2,fun x hx hx2=>by rw[p2 x hx (by omega),p1 x hx hx2],by rw[p2 _ ho1.1 ho1.2,v1],v2,kn2.mono hgg,hgg _ (.inl gn1),hgg _ gn2⟩
   cases sh with
   |true=>
    rw[if_pos rfl] at ha ⊢
    have g1:Ag c m.ins.length q.2.1:=ha.sub (Nat.le_refl _) fun p _ hp=>znk true _ _ _ p hp
    have hw:=zfi true ⟨zah op,0,txt0,o.1,q.1⟩ q.2.1 q.2.2
    have hu:∀ p∈q.2.2,p∈(zak true ⟨zah op,0,txt0,o.1,q.1⟩ q.2.1 q.2.2).2.2:=fun p hp=>by
     unfold zak
     split
     ·exact hp
     ·show p∈(if zah op=2 then q.2.2++[q.2.1.ins.length] else q.2.2)
      rw[if_neg (by omega)]; exact hp
    rcases key g1 _ _ hw hu with⟨hv,hL⟩|⟨x,y,k1,r1,hx,hy,s1,b1,q1,p1,v1,v2,kn1,gn1,gn2⟩
    ·rcases hv with hv|⟨x,hv,hw⟩
     ·rw[hv]; exact hL
     ·rw[hv,hw]; exact hL
    ·rw[hx,hy]
     have:=zgi (f:=f) (u:=q.2.2) hR he (v:=⟨zah op,0,txt0,o.1,q.1⟩) (by show 1≤zah op∧zah op≤17; omega) (zds hf (by omega) q1 kn1) (fun _=>gn1) (fun _=>gn2) (ha.sub (by omega) fun p _ _=>rfl)
     rw[hvv,v1,v2] at this
     exact this.ahead s1 b1 p1 (by omega) (znj _ _ _ _)
   |false=>
    rw[if_neg (by decide)] at ha ⊢
    have e1:o.1=m.next:=by rw[←ho]; exact(zmb d a m u hA (hkd a (by simp))).1
    have g1:Ag c m.ins.length q.2.1:=ha.sub (Nat.le_refl _) fun p _ hp=>by rw[zdd,zbo _ _ hp]
    rcases key g1 _ _ (show q.2.1.ins.length≤((q.2.1.lay ⟨zah op,o.1,o.1,q.1,0,txt0,0⟩).free false (m.next+1)).ins.length by rw[zbc,zae]; omega) (fun p hp=>hp) with⟨hv,hL⟩|⟨x,y,k1,r1,hx,hy,s1,b1,q1,p1,v1,v2,kn1,gn1,gn2⟩
    ·rcases hv with hv|⟨x,hv,hw⟩
     ·rw[hv]; exact hL
     ·rw[hv,hw]; exact hL
    ·rw[hx,hy]
     have hyy:=hvv r1
     rw[v1,v2] at hyy
     rw[e1] at hyy ha ⊢
     exact zot hR he (v:=⟨zah op,0,txt0,m.next,q.1⟩) (by show 1≤zah op∧zah op≤17; omega) hf.nx s1 b1 q1 p1 hyy ha
end
end Sm
end
section
open Go.RowKit
namespace Sm
open Co Gen Dn Gf
/-! The waits that are laid. -/
def Js (m m':Mk):Prop:=∃ N,m'.jobs=m.jobs++N∧N.map Prod.fst=List.range' m.ws.length N.length∧m'.ws.length=m.ws.length+N.length
theorem Js.same {m m':Mk}(h:jw m'=jw m):Js m m':=⟨[],by rw[List.append_nil]; exact congrArg Prod.fst h,rfl,congrArg Prod.snd h⟩
theorem Js.trans {m m' m'':Mk}(h:Js m m')(k:Js m' m''):Js m m'':=by
 obtain⟨N,h1,h2,h3⟩:=h
 obtain⟨K,k1,k2,k3⟩:=k
 refine⟨N++K,by rw[k1,h1,List.append_assoc],?_,by rw[k3,h3,List.length_append]; omega⟩
 rw[List.map_append,h2,k2,h3,List.length_append]
 have:=List.range'_append (s:=m.ws.length) (m:=N.length) (n:=K.length) (step:=1)
 rw[Nat.one_mul] at this
 rw[this]
theorem Js.then {m m' m'':Mk}(h:Js m m')(k:jw m''=jw m'):Js m m'':=h.trans (Js.same k)
theorem Js.call (m:Mk)(t:T):Js m (m.call t):=⟨[(m.ws.length,t)],rfl,rfl,by show(m.ws++[_]).length=_; simp⟩
theorem zfu (sh:Bool)(d:Nat):∀(t:T) (m:Mk),Js m (con sh d t m):=by
 induction d with
 |zero=>intro t m; exact Js.same rfl
 |succ d ih=>
  intro t m
  have ho:∀(t:T) (m:Mk),Js m (obs sh d t m []).2.1:=fun t m=>Js.same (zcx sh d t m [])
  have hl:∀ {m m':Mk} (x:Ix),Js m m'→Js m (m'.lay x):=fun x h=>h.then (zau _ _)
  rw[con]
  split
  ·exact Js.call m t
  ·refine Js.then ?_ (zby _ sh _)
   split
   ·exact hl _ (Js.same rfl)
   split
   ·exact(hl _ (Js.same rfl)).trans (ih _ _)
   split
   ·exact(hl _ ((hl (m:=m) (m':=m.reg) _ (Js.same rfl)).trans (ih _ _))).trans (ih _ _)
   split
   ·simp only
    exact(hl _ (ho _ _)).trans (ih _ _)
   split
   ·simp only
    obtain⟨A,B,C,D,hA,hB,hC,hD,e⟩:=zba (con sh d) (obs sh d (t.kid 0) m []).1 t (obs sh d (t.kid 0) m []).2.1
    rw[e]
    have gA:Js m A:=by rw[hA]; exact hl _ (ho _ _)
    have gB:Js m B:=by rw[hB]; exact gA.trans (ih _ _)
    have gC:Js m C:=by rw[hC]; exact gB.then rfl
    have gD:Js m D:=by rw[hD]; exact gC.trans (ih _ _)
    exact gD.then rfl
   ·exact Js.same rfl
theorem zfd (sh:Bool)(d:Nat):∀(t:T) (m:Mk),m.next≤(con sh d t m).next:=by
 cases sh with
 |false=>
  intro t m
  cases d with
  |zero=>exact Int.le_refl _
  |succ d=>
   rw[con]
   split
   ·exact Int.le_refl _
   ·exact Int.le_refl _
 |true=>
  induction d with
  |zero=>intro t m; exact Int.le_refl _
  |succ d ih=>
   intro t m
   rw[con]
   split
   ·exact Int.le_refl _
   ·rw[show ∀ x:Mk,(x.free true m.next).next=x.next from fun x=>rfl]
    split
    ·exact Int.le_refl _
    split
    ·exact ih (t.kid 0) (m.lay (ix 24 0 0 0))
    split
    ·have h1:=ih (t.kid 0) (m.reg.lay (ix 25 m.next 0 0))
     have h2:=ih (t.kid 1) ((con true d (t.kid 0) (m.reg.lay (ix 25 m.next 0 0))).lay (ix 26 0 m.next 0))
     have e1:(m.reg.lay (ix 25 m.next 0 0)).next=m.next+1:=rfl
     have e2:((con true d (t.kid 0) (m.reg.lay (ix 25 m.next 0 0))).lay (ix 26 0 m.next 0)).next=(con true d (t.kid 0) (m.reg.lay (ix 25 m.next 0 0))).next:=rfl
     omega
    split
    ·simp only
     have h1:=znv d (t.kid 0) m []
     have h2:=ih (t.kid 1) ((obs true d (t.kid 0) m []).2.1.lay (ix 23 0 (obs true d (t.kid 0) m []).1 0))
     have e2:((obs true d (t.kid 0) m []).2.1.lay (ix 23 0 (obs true d (t.kid 0) m []).1 0)).next=(obs true d (t.kid 0) m []).2.1.next:=rfl
     omega
    split
    ·simp only
     have h1:=znv d (t.kid 0) m []
     obtain⟨A,B,C,D,hA,hB,hC,hD,e⟩:=zba (con true d) (obs true d (t.kid 0) m []).1 t (obs true d (t.kid 0) m []).2.1
     rw[e]
     have gA:A.next=(obs true d (t.kid 0) m []).2.1.next:=by rw[hA]; rfl
     have gB:A.next≤B.next:=by rw[hB]; exact ih _ _
     have gC:C.next=B.next:=by rw[hC]; rfl
     have gD:C.next≤D.next:=by rw[hD]; exact ih _ _
     show m.next≤D.next
     omega
    ·exact Int.le_refl _
theorem zde (sh:Bool)(d:Nat)(t:T)(m:Mk):Fz m.ins.length m.ins (con sh d t m):=zmn sh d t m _ _ (fun p _=>rfl) (Nat.le_refl _)
theorem zeb (sh:Bool)(d:Nat)(t:T)(m:Mk):m.ins.length≤(con sh d t m).ins.length:=(zhq sh d t m).2
/-! What waits and what it may cost. -/
inductive Cost (Q:Nat→T→Nat→Nat→Prop):List (Nat × T)→Nat→Nat→Prop
 |nil:Cost Q [] 0 0
 |cons {j:Nat} {t:T} {p1 p2 q1 q2:Nat} {N:List (Nat × T)}:Q j t p1 p2→Cost Q N q1 q2→Cost Q ((j,t)::N) (p1+q1) (p2+q2)
inductive Match (J:Nat→T→Nat→Nat→Prop):List (Int × Int)→List (T × Int)→Nat→Nat→Prop
 |nil:Match J [] [] 0 0
 |cons {j:Nat} {t:T} {f:Int} {p1 p2 q1 q2:Nat} {hs:List (Int × Int)} {ls:List (T × Int)}:J j t p1 p2→Match J hs ls q1 q2→Match J (((j:Int),f)::hs) ((t,f)::ls) (p1+q1) (p2+q2)
theorem Cost.split {Q:Nat→T→Nat→Nat→Prop}{N K:List (Nat × T)}:∀ {q1 q2:Nat},Cost Q (N++K) q1 q2→∃ a1 a2 b1 b2,Cost Q N a1 a2∧Cost Q K b1 b2∧q1=a1+b1∧q2=a2+b2:=by
 induction N with
 |nil=>intro q1 q2 h; exact⟨0,0,q1,q2,.nil,h,(Nat.zero_add _).symm,(Nat.zero_add _).symm⟩
 |cons x N ih=>
  intro q1 q2 h
  rw[List.cons_append] at h
  cases h with
  |cons h1 h2=>
   obtain⟨a1,a2,b1,b2,g1,g2,rfl,rfl⟩:=ih h2
   exact⟨_,_,b1,b2,.cons h1 g1,g2,(Nat.add_assoc _ _ _).symm,(Nat.add_assoc _ _ _).symm⟩
theorem Cost.mono {Q Q':Nat→T→Nat→Nat→Prop}{N:List (Nat × T)}{q1 q2:Nat}(h:Cost Q N q1 q2):(∀ x∈N,∀ p1 p2,Q x.1 x.2 p1 p2→Q' x.1 x.2 p1 p2)→Cost Q' N q1 q2:=by
 induction h with
 |nil=>intro _; exact .nil
 |cons h1 h2 ih=>intro hx; exact .cons (hx (_,_) (List.mem_cons_self ..) _ _ h1) (ih fun x hm=>hx x (List.mem_cons_of_mem _ hm))
theorem Match.app {J:Nat→T→Nat→Nat→Prop}{hs hs':List (Int × Int)}{ls ls':List (T × Int)}{p1 p2 q1 q2:Nat}(h:Match J hs ls p1 p2)(h':Match J hs' ls' q1 q2):Match J (hs++hs') (ls++ls') (p1+q1) (p2+q2):=by
 induction h with
 |nil=>rw[Nat.zero_add,Nat.zero_add]; exact h'
 |cons h1 h2 ih=>rw[Nat.add_assoc,Nat.add_assoc]; exact .cons h1 ih
def zdy (c:Cd)(E:Vm.Env)(J:Nat→T→Nat→Nat→Prop)(at':Int)(res:Int→R)(p1 p2:Nat):Prop:=
 ∀ f,∃ k hs a1 a2,Ends c E at' f Vm.zeros k hs (res f).2∧Match J hs (res f).1 a1 a2∧k≤p1∧a1≤p1∧a2≤p2
def CDone (c:Cd)(E:Vm.Env)(J:Nat→T→Nat→Nat→Prop)(sh:Bool)(G:Int→Prop)(m m':Mk)(q1 q2:Nat)(f:Int)(r:List Int)(res:R):Prop:=
 ∃ k hs f' r' a1 a2,Does c E m.ins.length f r m'.ins.length f' r' k hs res.2∧Match J hs res.1 a1 a2∧k+m.ins.length≤m'.ins.length+q1∧a1≤q1∧a2≤q2∧r'.length=256∧(∀ x,0≤x→x<m.next→Vm.reg r' x=Vm.reg r x)∧KnOk sh E (Gn G m m') m'.known r'
end Sm
end
section
open Go.RowKit
namespace Gf
open Co Gen Dn
theorem zjy {m m':Mk}(h:jw m'=jw m):m'.jobs=m.jobs:=congrArg Prod.fst h
theorem zji (m:Mk)(sh:Bool)(r:Int):(m.free sh r).jobs=m.jobs:=zjy (zby m sh r)
theorem qeu {n:Int}{s:ByteArray}(h:fields 24 n s=true):Led.isCur s=true:=by
 simp[fields] at h
 exact h.1
end Gf
end
section
open Go.RowKit
namespace Sm
open Co Gen Dn Gf
def JobQ (c:Cd)(E:Vm.Env)(J:Nat→T→Nat→Nat→Prop)(j:Nat)(t:T)(p1 p2:Nat):Prop:=J j t p1 p2∧zdy c E J (zbt c (j:Int)) (den E t) p1 p2
def qbc (c:Cd)(E:Vm.Env)(J:Nat→T→Nat→Nat→Prop)(sh:Bool)(d:Nat):Prop:=∀(t:T) (m:Mk) (N:List (Nat × T)) (q1 q2:Nat) (G:Int→Prop) (r:List Int) (f:Int),t.letter=99→t.depth≤d→Fine c E sh G m r→Ag c m.ins.length (con sh d t m) →
 (con sh d t m).jobs=m.jobs++N→Cost (JobQ c E J) N q1 q2→CDone c E J sh G m (con sh d t m) q1 q2 f r (den E t f)
section
variable {c:Cd}{E:Vm.Env}{J:Nat→T→Nat→Nat→Prop}{sh:Bool}{G:Int→Prop}{m:Mk}{f:Int}{r:List Int}{d:Nat}{N:List (Nat × T)}{q1 q2:Nat}{res:R}
theorem CDone.free {m':Mk}(h:CDone c E J sh G m m' q1 q2 f r res):CDone c E J sh G m (m'.free sh m.next) q1 q2 f r res:=by
 obtain⟨k,hs,f',r',a1,a2,h1,h2,h3,h4,h5,h6,h7,h8⟩:=h
 refine⟨k,hs,f',r',a1,a2,by rw[zbc]; exact h1,h2,by rw[zbc]; exact h3,h4,h5,h6,h7,fun e=>?_⟩
 subst e
 exact h8 rfl
theorem CDone.ahead {m1 m':Mk}{k0:Nat}{f1:Int}{r1:List Int}(hs:Steps c E m.ins.length f r m1.ins.length f1 r1 k0)(hk:k0+m.ins.length≤m1.ins.length)(hp:∀ x,0≤x→x<m.next→Vm.reg r1 x=Vm.reg r x)(hn:m.next≤m1.next)(hn2:m1.next≤m'.next)
  (h:CDone c E J sh (Gn G m m1) m1 m' q1 q2 f1 r1 res):CDone c E J sh G m m' q1 q2 f r res:=by
 obtain⟨k,hs',f',r',a1,a2,g1,g2,g3,g4,g5,g6,g7,g8⟩:=h
 refine⟨k0+k,hs',f',r',a1,a2,hs.does g1,g2,by omega,g4,g5,g6,fun x hx hx2=>by rw[g7 x hx (by omega),hp x hx hx2],g8.mono fun x hx=>?_⟩
 rcases hx with(hx|hx)|hx
 ·exact .inl hx
 ·exact .inr (by omega)
 ·exact .inr (by omega)
theorem zro {b z:Int}{p:Int}:Vm.act c E (reTo (ix 23 0 b 0) z) p f r=.next (p+1) (E.mul f (Vm.reg r b)) r:=rfl
theorem qdx {z:Int}{p:Int}:Vm.act c E (reTo (ix 24 0 0 0) z) p f r=.next (p+1) (E.neg f) r:=rfl
theorem qds {a z:Int}{p:Int}:Vm.act c E (reTo (ix 25 a 0 0) z) p f r=.next (p+1) f (Vm.setReg r a f):=rfl
theorem qdw {b z:Int}{p:Int}:Vm.act c E (reTo (ix 26 0 b 0) z) p f r=.next (p+1) (E.clamp (Vm.reg r b)) r:=rfl
theorem zhp {m1:Mk}(h:Fine c E sh G m r)(hn:m.next≤m1.next)(hk:m1.known=m.known):Fine c E sh G m1 r:=⟨by have:=h.nx; omega,fun x hx=>by have:=h.g x hx; omega,h.len,by rw[hk]; exact h.kn⟩
theorem znz {m m1 m2:Mk}(h:Js m m1)(k:Js m1 m2)(hN:m2.jobs=m.jobs++N):∃ A B,m1.jobs=m.jobs++A∧m2.jobs=m1.jobs++B∧N=A++B:=by
 obtain⟨A,h1, -, -⟩:=h
 obtain⟨B,k1, -, -⟩:=k
 refine⟨A,B,h1,k1,?_⟩
 rw[k1,h1,List.append_assoc] at hN
 exact(List.append_cancel_left hN).symm
theorem zpc (IH:qbc c E J sh d){n:Int}{s:ByteArray}{o a b:T}{rg:Int}(ha:a.letter=99)(hb:b.letter=99)(da:a.depth≤d)(db:b.depth≤d)(hf:Fine c E sh G m r)(hag:Ag c m.ins.length (either (con sh d) rg (.mk 28 n s [o,a,b]) m))
  (hN:(either (con sh d) rg (.mk 28 n s [o,a,b]) m).jobs=m.jobs++N) (hc:Cost (JobQ c E J) N q1 q2):CDone c E J sh G m (either (con sh d) rg (.mk 28 n s [o,a,b]) m) q1 q2 f r (if Vm.reg r rg=0 then den E b f else den E a f):=by
 obtain⟨A,B,C,D,hA,hB,hC,hD,e⟩:=zba (con sh d) rg (.mk 28 n s [o,a,b]) m
 rw[kid1] at hB
 rw[kid2] at hD
 obtain⟨F,hF⟩:∃ F,(D.back C.known).here B.ins.length=F:=⟨_,rfl⟩
 rw[show either (con sh d) rg (.mk 28 n s [o,a,b]) m=F from e.trans hF] at hag hN ⊢
 have lA:A.ins.length=m.ins.length+1:=by rw[hA,zae]
 have lB:A.ins.length≤B.ins.length:=by rw[hB]; exact zeb ..
 have lC:C.ins.length=B.ins.length+1:=by rw[hC,zaf,zae,zai]
 have lD:C.ins.length≤D.ins.length:=by rw[hD]; exact zeb ..
 have lF:F.ins.length=D.ins.length:=by rw[←hF,zaf,zai]
 have kB:Fz A.ins.length A.ins B:=by rw[hB]; exact zde sh d a A
 have kD:Fz C.ins.length C.ins D:=by rw[hD]; exact zde sh d b C
 have iF:∀ p,p≠B.ins.length→F.ins[p]? = D.ins[p]?:=fun p hp=>by rw[←hF,zcs _ (Ne.symm hp)]; rfl
 have iC:∀ p,p<B.ins.length→p≠m.ins.length→C.ins[p]? = B.ins[p]?:=fun p hp hp2=>by rw[hC,zcs _ (Ne.symm hp2),zbo _ _ (by rw[zai]; exact hp)]; rfl
 have jF:F.ins[m.ins.length]? = some (reTo (ix 19 0 rg 0) C.ins.length):=by
  rw[iF _ (by omega),kD _ (by omega)]
  have:=zev ((B.back A.known).lay (ix 20 0 0 0)) (q:=m.ins.length) (x:=ix 19 0 rg 0) (by
   rw[zbo _ _ (by rw[zai]; omega)]
   show B.ins[_]? = _
   rw[kB _ (by omega),hA]; exact zbp _ _)
  rw[←hC] at this
  rw[this,zae,zai,lC]
 have jG:F.ins[B.ins.length]? = some (reTo (ix 20 0 0 0) D.ins.length):=by
  rw[←hF]
  refine zev (D.back C.known) ?_
  show D.ins[_]? = _
  rw[kD _ (by omega),hC,zcs _ (by omega)]
  exact zbp (B.back A.known) (ix 20 0 0 0)
 have gB:Ag c A.ins.length B:=hag.sub (by omega) fun p hp hp2=>by rw[iF p (by omega),kD p (by omega),iC p hp2 (by omega)]
 have gD:Ag c C.ins.length D:=hag.sub (by omega) fun p hp hp2=>iF p (by omega)
 have jump:=hag.get (Nat.le_refl _) jF (show(19:Int)≠2 by decide)
 have jump2:=hag.get (by omega) jG (show(20:Int)≠2 by decide)
 have nA:A.next=m.next:=by rw[hA]; rfl
 have nB:A.next≤B.next:=by rw[hB]; exact zfd ..
 have nC:C.next=B.next:=by rw[hC]; rfl
 have nD:C.next≤D.next:=by rw[hD]; exact zfd ..
 have nF:F.next=D.next:=by rw[←hF]; rfl
 have eA:A.known=m.known:=by rw[hA]; rfl
 have eC:C.known=m.known:=by rw[hC]; exact eA
 have eF:F.known=m.known:=by rw[←hF]; exact eC
 have jA:Js m A:=by rw[hA]; exact Js.same rfl
 have jB:Js A B:=by rw[hB]; exact zfu ..
 have jC:Js B C:=by rw[hC]; exact Js.same rfl
 have jD:Js C D:=by rw[hD]; exact zfu ..
 obtain⟨X,Y,hX,hY,rfl⟩:=znz ((jA.trans jB).trans jC) (show Js C F from jD.then (by rw[←hF]; rfl)) hN
 have hX':B.jobs=A.jobs++X:=by
  have e1:C.jobs=B.jobs:=by rw[hC]; rfl
  have e2:A.jobs=m.jobs:=by rw[hA]; rfl
  rw[←e1,e2]; exact hX
 have hY':D.jobs=C.jobs++Y:=by rw[←hY,←hF]; rfl
 obtain⟨x1,x2,y1,y2,cX,cY,rfl,rfl⟩:=hc.split
 have hkn:∀ r',(∀ x,0≤x→x<m.next→Vm.reg r' x=Vm.reg r x)→KnOk sh E (Gn G m F) F.known r':=fun r' hp=>by
  rw[eF]
  exact(hf.kn.regs fun x hx=>hp x (hf.g x hx).1 (hf.g x hx).2).mono fun x hx=>.inl hx
 have hj:=zgm (E:=E) (f:=f) (r:=r) jump
 by_cases hy:Vm.reg r rg=0
 ·rw[if_pos hy] at hj ⊢
  have:=IH b C Y y1 y2 G r f hb db (zhp hf (by omega) eC) (by rw[←hD]; exact gD) (by rw[←hD]; exact hY') cY
  rw[←hD] at this
  obtain⟨k,hs,f',r',a1,a2,g1,g2,g3,g4,g5,g6,g7,g8⟩:=this
  have g7':∀ x,0≤x→x<m.next→Vm.reg r' x=Vm.reg r x:=fun x hx hx2=>g7 x hx (by omega)
  exact⟨1+k,hs,f',r',a1,a2,by rw[lF]; exact hj.does g1,g2,by omega,by omega,by omega,g6,g7',hkn r' g7'⟩
 ·rw[if_neg hy] at hj ⊢
  rw[←lA] at hj
  have:=IH a A X x1 x2 G r f ha da (zhp hf (by omega) eA) (by rw[←hB]; exact gB) (by rw[←hB]; exact hX') cX
  rw[←hB] at this
  obtain⟨k,hs,f',r',a1,a2,g1,g2,g3,g4,g5,g6,g7,g8⟩:=this
  have g7':∀ x,0≤x→x<m.next→Vm.reg r' x=Vm.reg r x:=fun x hx hx2=>g7 x hx (by omega)
  have hj2:=zpz (E:=E) (f:=f') (r:=r') jump2
  exact⟨1+k+1,hs,f',r',a1,a2,by rw[lF]; exact(hj.does g1).steps hj2,g2,by omega,by omega,by omega,g6,g7',hkn r' g7'⟩
theorem zha (hR:Gen.right c=true)(he:EnvOk E):∀ d,qbc c E J sh d:=by
 intro d
 induction d with
 |zero=>intro t m N q1 q2 G r f _ hd; have:=zfc t; omega
 |succ d ih=>
  intro t m N q1 q2 G r f hx hd hf hag hN hc
  cases hw:zax t with
  |true=>
   rw[zhc hw] at hag hN ⊢
   obtain rfl:N=[(m.ws.length,t)]:=(List.append_cancel_left (show m.jobs++[(m.ws.length,t)]=m.jobs++N from hN)).symm
   cases hc with
   |cons h1 h2=>
    cases h2
    obtain⟨hJ,hS⟩:=h1
    obtain⟨k,hs,a1,a2,g1,g2,g3,g4,g5⟩:=hS f
    have hat:(m.call t).ins[m.ins.length]? = some (ix 29 0 0 m.ws.length):=by show(m.ins++[_])[_]? = _; simp
    have hins:=hag.get (Nat.le_refl _) hat (show(29:Int)≠2 by decide)
    have hD:=Does.call (E:=E) (f:=f) (r:=r) hins (show(29:Int)=29 from rfl) g1
    have hl:(m.call t).ins.length=m.ins.length+1:=by show(m.ins++[_]).length=_; simp
    exact⟨1+k,hs,f,r,a1,a2,by rw[hl]; exact hD,g2,by omega,by omega,by omega,hf.len,fun _ _ _=>rfl,hf.kn.mono fun x hx=>.inl hx⟩
  |false=>
   obtain⟨op,n,s,ks⟩:=t
   have hkd:∀ k∈ks,k.depth≤d:=fun k hk=>by
    have h1:=zcy hk
    rw[T.depth] at hd
    omega
   obtain⟨w1,w2,w3,w4⟩:=zgr hw
   rcases zbm hx with(⟨rfl,rfl⟩|⟨rfl,rfl⟩)|⟨h1,a,rfl,ha⟩|⟨rfl,o,a,rfl,ho,ha⟩|⟨h1,a,b,rfl,ha,hb⟩|⟨rfl,o,a,b,rfl,ho,ha,hb⟩|⟨rfl,o,a,rfl,ho,ha⟩
   ·rw[zgz hw rfl] at hag hN ⊢
    rw[ztt]
    refine CDone.free ⟨0,[],f,r,0,0,Does.refl,.nil,by omega,Nat.zero_le _,Nat.zero_le _,hf.len,fun _ _ _=>rfl,hf.kn.mono fun x hx=>.inl hx⟩
   ·rw[zik hw rfl] at hag hN ⊢
    rw[zts]
    refine CDone.free ?_
    have hat:(m.lay ⟨27,0,0,0,0,s,0⟩).ins[m.ins.length]? = some ⟨27,0,0,0,0,s,0⟩:=zbp _ _
    have hins:=hag.get (Nat.le_refl _) (by rw[zdd]; exact hat) (show(27:Int)≠2 by decide)
    have hD:=Does.pay (E:=E) (f:=f) (r:=r) hins (show(27:Int)=27 from rfl)
    have hl:(m.lay ⟨27,0,0,0,0,s,0⟩).ins.length=m.ins.length+1:=zae _ _
    exact⟨1,[],f,r,0,0,by show Does c E _ f r ((m.lay ⟨27,0,0,0,0,s,0⟩).ins.length:Int) f r 1 _ _; rw[hl]; exact hD,.nil,by show _≤(m.lay ⟨27,0,0,0,0,s,0⟩).ins.length+q1; omega,Nat.zero_le _,Nat.zero_le _,hf.len,fun _ _ _=>rfl,hf.kn.mono fun x hx=>.inl hx⟩
   ·rcases h1 with rfl|rfl
    ·rw[zhb hw rfl,kid0] at hag hN ⊢
     rw[ztr]
     refine CDone.free ?_
     replace hag:=hag.same (zdd _ _ _)
     rw[zji] at hN
     obtain⟨A,hA⟩:∃ A,m.lay (ix 24 0 0 0)=A:=⟨_,rfl⟩
     rw[hA] at hag hN ⊢
     have lA:A.ins.length=m.ins.length+1:=by rw[←hA,zae]
     have hat:(con sh d a A).ins[m.ins.length]? = some (ix 24 0 0 0):=by rw[zde sh d a A _ (by omega),←hA]; exact zbp _ _
     have hins:=hag.get (Nat.le_refl _) hat (show(24:Int)≠2 by decide)
     have hs:Steps c E m.ins.length f r A.ins.length (E.neg f) r 1:=by rw[lA]; exact Steps.one hins (qdx (z:=0))
     have nA:A.next=m.next:=by rw[←hA]; rfl
     have eA:A.known=m.known:=by rw[←hA]; rfl
     have ff:Fine c E sh (Gn G m A) A r:=zds hf (by omega) hf.len (by rw[eA]; exact hf.kn.mono fun x hx=>.inl hx)
     have:=ih a A N q1 q2 _ r (E.neg f) ha (hkd a (by simp)) ff (hag.sub (by omega) fun p _ _=>rfl) (by rw[hN,←hA]; rfl) hc
     exact CDone.ahead hs (by omega) (fun _ _ _=>rfl) (by omega) (zfd ..) this
    ·exact absurd rfl w1
   ·rw[zgf hw rfl,kid0,kid1] at hag hN ⊢
    have hfo:zbs o=false:=w4 (.inl rfl)
    obtain⟨v,hv⟩:=zri E o (zaz ho) hfo
    rw[zmm,hv]
    refine CDone.free ?_
    replace hag:=hag.same (zdd _ _ _)
    rw[zji] at hN
    obtain⟨O,hO⟩:∃ O,obs sh d o m []=O:=⟨_,rfl⟩
    rw[hO] at hag hN ⊢
    obtain⟨A,hA⟩:∃ A,O.2.1.lay (ix 23 0 O.1 0)=A:=⟨_,rfl⟩
    rw[hA] at hag hN ⊢
    have lO:=zap sh d o m []
    have nO:=zdv sh d o m [] (zaz ho) (hkd o (by simp))
    rw[hO] at lO nO
    have lA:A.ins.length=O.2.1.ins.length+1:=by rw[←hA,zae]
    have iA:∀ p,p<O.2.1.ins.length→(con sh d a A).ins[p]? = O.2.1.ins[p]?:=fun p hp=>by rw[zde sh d a A _ (by omega),←hA,zbo _ _ hp]
    have gO:Ag c m.ins.length O.2.1:=hag.sub (Nat.le_refl _) fun p _ hp=>iA p hp
    have hs:=zjt (f:=f) hR he d o m [] G r (zaz ho) (hkd o (by simp)) hf (by rw[hO]; exact gO)
    rw[hO,hv] at hs
    obtain⟨k1,r1,s1,b1,g1,p1,v1,kn1,gn1⟩:=hs
    have hat:(con sh d a A).ins[O.2.1.ins.length]? = some (ix 23 0 O.1 0):=by rw[zde sh d a A _ (by omega),←hA]; exact zbp _ _
    have hins:=hag.get lO hat (show(23:Int)≠2 by decide)
    have s2:Steps c E m.ins.length f r A.ins.length (E.mul f v) r1 (k1+1):=by
     rw[lA,←v1]
     exact s1.trans (Steps.one hins (zro (z:=0)))
    have nA:A.next=O.2.1.next:=by rw[←hA]; rfl
    have eA:A.known=O.2.1.known:=by rw[←hA]; rfl
    have ff:Fine c E sh (Gn G m A) A r1:=zds hf (by omega) g1 (by rw[eA]; exact kn1.mono fun x hx=>by unfold Gn at hx ⊢; rw[nA]; exact hx)
    have:=ih a A N q1 q2 _ r1 (E.mul f v) ha (hkd a (by simp)) ff (hag.sub (by omega) fun p _ _=>rfl) (by
     have e1:A.jobs=m.jobs:=by
      have:=congrArg Prod.fst (zcx sh d o m [])
      rw[hO] at this
      rw[←hA]; exact this
     rw[hN,e1]) hc
    exact CDone.ahead s2 (by omega) p1 (by omega) (zfd ..) this
   ·rcases h1 with rfl|rfl
    ·rw[zhd hw rfl,kid0,kid1] at hag hN ⊢
     rw[ztq]
     refine CDone.free ?_
     replace hag:=hag.same (zdd _ _ _)
     rw[zji] at hN
     obtain⟨A,hA⟩:∃ A,m.reg.lay (ix 25 m.next 0 0)=A:=⟨_,rfl⟩
     rw[hA] at hag hN ⊢
     obtain⟨B,hB⟩:∃ B,con sh d a A=B:=⟨_,rfl⟩
     rw[hB] at hag hN ⊢
     obtain⟨C,hC⟩:∃ C,B.lay (ix 26 0 m.next 0)=C:=⟨_,rfl⟩
     rw[hC] at hag hN ⊢
     have lA:A.ins.length=m.ins.length+1:=by rw[←hA,zae]; rfl
     have lB:A.ins.length≤B.ins.length:=by rw[←hB]; exact zeb ..
     have lC:C.ins.length=B.ins.length+1:=by rw[←hC,zae]
     have lD:=zeb sh d b C
     have kB:Fz A.ins.length A.ins B:=by rw[←hB]; exact zde sh d a A
     have kD:=zde sh d b C
     have iC:∀ p,p<B.ins.length→(con sh d b C).ins[p]? = B.ins[p]?:=fun p hp=>by rw[kD _ (by omega),←hC,zbo _ _ hp]
     have hat1:(con sh d b C).ins[m.ins.length]? = some (ix 25 m.next 0 0):=by rw[iC _ (by omega),kB _ (by omega),←hA]; exact zbp m.reg _
     have hat2:(con sh d b C).ins[B.ins.length]? = some (ix 26 0 m.next 0):=by rw[kD _ (by omega),←hC]; exact zbp _ _
     have hin1:=hag.get (Nat.le_refl _) hat1 (show(25:Int)≠2 by decide)
     have hin2:=hag.get (by omega) hat2 (show(26:Int)≠2 by decide)
     have hA256:0≤m.next∧m.next<256:=(zkz hR hin1).1 rfl
     have nA:A.next=m.next+1:=by rw[←hA]; rfl
     have nB:A.next≤B.next:=by rw[←hB]; exact zfd ..
     have nC:C.next=B.next:=by rw[←hC]; rfl
     have nD:=zfd sh d b C
     have eA:A.known=m.known:=by rw[←hA]; rfl
     have eC:C.known=B.known:=by rw[←hC]; rfl
     obtain⟨X,Y,hX,hY,rfl⟩:=znz (m:=m) (m1:=B) (m2:=con sh d b C) ((show Js m A from by rw[←hA]; exact Js.same rfl).trans (by rw[←hB]; exact zfu ..)) ((show Js B C from by rw[←hC]; exact Js.same rfl).trans (zfu ..)) hN
     obtain⟨x1,x2,y1,y2,cX,cY,rfl,rfl⟩:=hc.split
     have e3:∀ x,0≤x→x<m.next→Vm.reg (Vm.setReg r m.next f) x=Vm.reg r x:=fun x hx hx2=>zgb hA256.1 hx (by omega)
     have s1:Steps c E m.ins.length f r A.ins.length f (Vm.setReg r m.next f) 1:=by rw[lA]; exact Steps.one hin1 (qds (z:=0))
     have ff:Fine c E sh G A (Vm.setReg r m.next f):=⟨by omega,fun x hx=>by have:=hf.g x hx; omega,zhy hf.len,by rw[eA]; exact hf.kn.regs fun x hx=>e3 x (hf.g x hx).1 (hf.g x hx).2⟩
     have hk:=ih a A X x1 x2 G (Vm.setReg r m.next f) f ha (hkd a (by simp)) ff (by rw[hB]; exact hag.sub (by omega) fun p _ hp=>iC p hp) (by rw[hB,hX,←hA]; rfl) cX
     rw[hB] at hk
     obtain⟨k,hs,f',r',a1,a2,g1,g2,g3,g4,g5,g6,g7,g8⟩:=hk
     have s2:Steps c E B.ins.length f' r' C.ins.length (E.clamp f) r' 1:=by
      have e4:Vm.reg r' m.next=f:=by rw[g7 _ hA256.1 (by omega)]; exact zkp hf.len hA256
      rw[lC]
      have:=Steps.one (E:=E) (f:=f') (r:=r') hin2 (qdw (z:=0))
      rw[e4] at this
      exact this
     have ff2:Fine c E sh (Gn G A B) C r':=zhp (m:=B) (zds ff nB g6 g8) (by omega) eC
     have hk2:=ih b C Y y1 y2 _ r' (E.clamp f) hb (hkd b (by simp)) ff2 (hag.sub (by omega) fun p _ _=>rfl) (by rw[hY,←hC]; rfl) cY
     obtain⟨k',hs',f'',r'',b1,b2,u1,u2,u3,u4,u5,u6,u7,u8⟩:=hk2
     have hgl:=zeb sh d b C
     refine⟨1+k+1+k',hs++hs',f'',r'',a1+b1,a2+b2,((s1.does g1).steps s2).trans u1,g2.app u2,by omega,by omega,by omega,u6,fun x hx hx2=>by rw[u7 x hx (by omega),g7 x hx (by omega),e3 x hx hx2],u8.mono fun x hx=>?_⟩
     rcases hx with(hx|hx)|hx
     ·exact .inl hx
     ·exact .inr (by omega)
     ·exact .inr (by omega)
    ·exact absurd rfl w3
   ·rw[zkd hw rfl,kid0] at hag hN ⊢
    have hfo:zbs o=false:=w4 (.inr rfl)
    obtain⟨v,hv⟩:=zri E o (zbd ho) hfo
    rw[zkc,hv]
    refine CDone.free ?_
    replace hag:=hag.same (zdd _ _ _)
    rw[zji] at hN
    obtain⟨O,hO⟩:∃ O,obs sh d o m []=O:=⟨_,rfl⟩
    rw[hO] at hag hN ⊢
    have lO:=zap sh d o m []
    have nO:=zdv sh d o m [] (zbd ho) (hkd o (by simp))
    rw[hO] at lO nO
    have kE:Fz O.2.1.ins.length O.2.1.ins (either (con sh d) O.1 (.mk 28 n s [o,a,b]) O.2.1):=by
     obtain⟨A,B,C,D,hA,hB,hC,hD,e⟩:=zba (con sh d) O.1 (.mk 28 n s [o,a,b]) O.2.1
     rw[e]
     have h0:Fz O.2.1.ins.length O.2.1.ins O.2.1:=fun p _=>rfl
     have lA:A.ins.length=O.2.1.ins.length+1:=by rw[hA,zae]
     have lB:A.ins.length≤B.ins.length:=by rw[hB]; exact zeb ..
     have lC:C.ins.length=B.ins.length+1:=by rw[hC,zaf,zae,zai]
     have gA:Fz O.2.1.ins.length O.2.1.ins A:=by rw[hA]; exact h0.lay (Nat.le_refl _) _
     have gB:Fz O.2.1.ins.length O.2.1.ins B:=by rw[hB]; exact zmn sh d _ A _ _ gA (by omega)
     have gC:Fz O.2.1.ins.length O.2.1.ins C:=by rw[hC]; exact((gB.back _).lay (by rw[zai]; omega) _).here (Nat.le_refl _)
     have gD:Fz O.2.1.ins.length O.2.1.ins D:=by rw[hD]; exact zmn sh d _ C _ _ gC (by omega)
     exact(gD.back _).here (by rw[zai]; omega)
    have nE:O.2.1.next≤(either (con sh d) O.1 (.mk 28 n s [o,a,b]) O.2.1).next:=by
     obtain⟨A,B,C,D,hA,hB,hC,hD,e⟩:=zba (con sh d) O.1 (.mk 28 n s [o,a,b]) O.2.1
     rw[e]
     have nA:A.next=O.2.1.next:=by rw[hA]; rfl
     have nB:A.next≤B.next:=by rw[hB]; exact zfd ..
     have nC:C.next=B.next:=by rw[hC]; rfl
     have nD:C.next≤D.next:=by rw[hD]; exact zfd ..
     show _≤D.next
     omega
    have gO:Ag c m.ins.length O.2.1:=hag.sub (Nat.le_refl _) fun p _ hp=>kE p hp
    have hs:=zjt (f:=f) hR he d o m [] G r (zbd ho) (hkd o (by simp)) hf (by rw[hO]; exact gO)
    rw[hO,hv] at hs
    obtain⟨k1,r1,s1,b1,g1,p1,v1,kn1,gn1⟩:=hs
    have ff:Fine c E sh (Gn G m O.2.1) O.2.1 r1:=zds hf nO g1 kn1
    have:=zpc (f:=f) ih (n:=n) (s:=s) (o:=o) (rg:=O.1) ha hb (hkd a (by simp)) (hkd b (by simp)) ff (hag.sub lO fun p _ _=>rfl) (by
     have e1:O.2.1.jobs=m.jobs:=by
      have:=congrArg Prod.fst (zcx sh d o m [])
      rw[hO] at this
      exact this
     rw[hN,e1]) hc
    rw[v1] at this
    exact CDone.ahead s1 b1 p1 nO nE this
   ·exact absurd rfl w2
end
end Sm
end
section
open Go.RowKit
namespace Sm
open Co Gen Dn Gf
def Two (m:Mk)(p:Nat):Prop:=∃ x,m.ins[p]? = some x∧x.op=2
theorem Two.ext {m m':Mk}{p:Nat}(h:Two m p)(e:Ext m m'):Two m' p:=by
 obtain⟨x,hx,ho⟩:=h
 obtain⟨z,hz⟩:=e.ins p x hx
 exact⟨_,hz,ho⟩
theorem zpv (sh:Bool)(d:Nat):∀(t:T) (m:Mk) (u:List Nat),∀ p∈(obs sh d t m u).2.2,p∈u∨Two (obs sh d t m u).2.1 p:=by
 induction d with
 |zero=>intro t m u p hp; exact .inl hp
 |succ d ih=>
  intro t m u
  have hr:∀(v:Val) (m':Mk) (u':List Nat),(∀ p∈u',p∈u∨Two m' p)→∀ p∈(zak sh v m' u').2.2,p∈u∨Two (zak sh v m' u').2.1 p:=by
   intro v m' u' h p hp
   have he:=zgk sh v u' (Ext.refl m')
   have key:p∈u'∨Two (zak sh v m' u').2.1 p:=by
    unfold zak at hp ⊢
    split at hp
    ·exact .inl hp
    ·rename_i hk
     have hp':p∈(if v.op=2 then u'++[m'.ins.length] else u'):=hp
     split at hp'
     ·rename_i h2
      rcases List.mem_append.1 hp' with h1|h1
      ·exact .inl h1
      ·rw[List.mem_singleton] at h1
       subst h1
       exact .inr ⟨v.ix m'.next,zbp m'.reg _,h2⟩
     ·exact .inl hp'
   rcases key with h1|h1
   ·exact(h p h1).imp id fun h2=>h2.ext he
   ·exact .inr h1
  have hk:∀(t:T) (m':Mk) (u':List Nat) (out:Int),(∀ p∈u',p∈u∨Two m' p)→∀ p∈(into sh out (obs sh d t m' u')).2,p∈u∨Two (into sh out (obs sh d t m' u')).1 p:=by
   intro t m' u' out h p hp
   have e1:Ext (obs sh d t m' u').2.1 (into sh out (obs sh d t m' u')).1:=zth sh out (Ext.refl _)
   rcases ih t m' u' p hp with h1|h1
   ·exact(h p h1).imp id fun h2=>h2.ext ((zfm sh d t m' u').trans e1)
   ·exact .inr (h1.ext e1)
  have h0:∀ p∈u,p∈u∨Two m p:=fun p hp=>.inl hp
  have h0':∀ p∈u,p∈u∨Two m.reg p:=fun p hp=>.inl hp
  rw[obs]
  split
  ·exact hr _ m u h0
  split
  ·exact hr _ m u h0
  split
  ·exact hr _ m u h0
  have ga:=hk (t.kid 0) m.reg u m.next h0'
  have up:∀ {A A':Mk} {u':List Nat},(∀ p∈u',p∈u∨Two A p)→Ext A A'→∀ p∈u',p∈u∨Two A' p:=fun h e p hp=>(h p hp).imp id fun h2=>h2.ext e
  split
  ·unfold Gf.chosen zdi
   simp only
   generalize into sh m.next (obs sh d (t.kid 0) m.reg u)=A at *
   exact up (hk (t.kid 1) _ A.2 m.next (up ga ((Ext.refl _).lay _))) ((((Ext.refl _).back _).here _).free sh _)
  split
  ·unfold Gf.chosen zec
   simp only
   generalize into sh m.next (obs sh d (t.kid 0) m.reg u)=A at *
   exact up (hk (t.kid 1) _ A.2 m.next (up ga ((((Ext.refl _).lay _).lay _).here _))) ((((Ext.refl _).back _).here _).free sh _)
  split
  ·unfold Gf.chosen zed
   simp only
   generalize into sh m.next (obs sh d (t.kid 0) m.reg u)=A at *
   have gb:=hk (t.kid 1) _ A.2 m.next (up ga ((Ext.refl _).lay (ix 19 0 m.next 0)))
   generalize into sh m.next (obs sh d (t.kid 1) (A.1.lay (ix 19 0 m.next 0)) A.2)=C at *
   exact up (hk (t.kid 2) _ C.2 m.next (up gb ((((Ext.refl _).back _).lay _).here _))) ((((Ext.refl _).back _).here _).free sh _)
  ·have g1:=ih (t.kid 0) m u
   obtain⟨o,hoo⟩:∃ o,obs sh d (t.kid 0) m u=o:=⟨_,rfl⟩
   rw[hoo] at g1
   by_cases hl:1<t.ks.length
   ·have g2:∀ p∈(obs sh d (t.kid 1) o.2.1 o.2.2).2.2,p∈u∨Two (obs sh d (t.kid 1) o.2.1 o.2.2).2.1 p:=fun p hp=>by
     rcases ih (t.kid 1) o.2.1 o.2.2 p hp with h1|h1
     ·exact(g1 p h1).imp id fun h2=>h2.ext (zfm sh d _ _ _)
     ·exact .inr h1
    obtain⟨q,hq⟩:∃ q,obs sh d (t.kid 1) o.2.1 o.2.2=q:=⟨_,rfl⟩
    rw[hq] at g2
    rw[zdp hl rfl hoo rfl hq]
    cases sh
    ·exact up g2 (((Ext.refl _).lay _).free false _)
    ·exact hr _ q.2.1 q.2.2 g2
   ·rw[zdq hl rfl hoo]
    cases sh
    ·exact up g1 (((Ext.refl _).lay _).free false _)
    ·exact hr _ o.2.1 o.2.2 g1
theorem zlb:∀(l:List Nat) (m:Mk) (p:Nat),(hereAll m l).ins[p]? = if p∈l then(m.ins[p]?).map fun x=>reTo x m.ins.length else m.ins[p]?
 | [],m,p=>by simp[hereAll]
 |q::l,m,p=>by
  have h:=zlb l (m.here q) p
  have e:hereAll m (q::l)=hereAll (m.here q) l:=rfl
  rw[e,h,zaf,zii]
  by_cases hq:q=p
  ·subst hq
   rw[if_pos rfl,if_pos (List.mem_cons_self ..)]
   by_cases hl:q∈l
   ·rw[if_pos hl,Option.map_map]; rfl
   ·rw[if_neg hl]
  ·rw[if_neg hq]
   by_cases hl:p∈l
   ·rw[if_pos hl,if_pos (List.mem_cons_of_mem _ hl)]
   ·rw[if_neg hl,if_neg (by simp only[List.mem_cons,not_or]; exact⟨Ne.symm hq,hl⟩)]
theorem zbh:∀(l:List Nat) (m:Mk),(hereAll m l).ins.length=m.ins.length
 | [],m=>rfl
 |q::l,m=>(zbh l (m.here q)).trans (zaf _ _)
theorem zek (j:Nat)(X:Mk)(l:List Nat):(again j X l).ins.length=X.ins.length+3:=by
 unfold again
 show(((hereAll _ l).ins++[_])++[_]).length=_
 rw[List.length_append,List.length_append,zbh]
 show(X.ins++[_]).length+1+1=_
 simp
theorem zud {j:Nat}{X:Mk}{l:List Nat}{p:Nat}(hp:p<X.ins.length):(again j X l).ins[p]? = if p∈l then(X.ins[p]?).map fun x=>reTo x ((X.ins.length+1:Nat):Int) else X.ins[p]?:=by
 have hY:(X.setW j fun w=>{ w with day:=zck w.day }).fin.ins.length=X.ins.length+1:=by show(X.ins++[_]).length=_; simp
 have hy:(X.setW j fun w=>{ w with day:=zck w.day }).fin.ins[p]? = X.ins[p]?:=by show(X.ins++[_])[p]? = _; exact List.getElem?_append_left hp
 unfold again
 show(((hereAll _ l).ins++[_])++[_])[p]? = _
 rw[List.getElem?_append_left (by rw[List.length_append,zbh,hY]; omega),List.getElem?_append_left (by rw[zbh,hY]; omega),zlb,hY,hy]
theorem zrn {j:Nat}{X:Mk}{l:List Nat}(hl:∀ p∈l,p<X.ins.length):(again j X l).ins[X.ins.length]? = some (ix 30 0 0 0)∧(again j X l).ins[X.ins.length+1]? = some (ix 28 0 0 j)∧(again j X l).ins[X.ins.length+2]? = some (ix 30 0 0 0):=by
 have hY:(X.setW j fun w=>{ w with day:=zck w.day }).fin.ins.length=X.ins.length+1:=by show(X.ins++[_]).length=_; simp
 have hy:(X.setW j fun w=>{ w with day:=zck w.day }).fin.ins[X.ins.length]? = some (ix 30 0 0 0):=by show(X.ins++[_])[_]? = _; simp
 unfold again
 refine⟨?_,?_,?_⟩
 ·show(((hereAll _ l).ins++[_])++[_])[_]? = _
  rw[List.getElem?_append_left (by rw[List.length_append,zbh,hY]; omega),List.getElem?_append_left (by rw[zbh,hY]; omega),zlb,if_neg (fun h=>Nat.lt_irrefl _ (hl _ h)),hy]
 ·show(((hereAll _ l).ins++[_])++[_])[_]? = _
  rw[List.getElem?_append_left (by rw[List.length_append,zbh,hY,List.length_singleton]; omega),List.getElem?_append_right (by rw[zbh,hY]; omega),zbh,hY]
  simp
 ·show(((hereAll _ l).ins++[_])++[_])[_]? = _
  rw[List.getElem?_append_right (by rw[List.length_append,zbh,hY,List.length_singleton]; omega),List.length_append,zbh,hY]
  simp
def zee (c:Cd)(W:Mk):Prop:=∀ p,p<W.ins.length→c.ins[p]? = W.ins[p]?
section
variable {c:Cd}{E:Vm.Env}{J:Nat→T→Nat→Nat→Prop}{sh:Bool}{f:Int}{r:List Int}{d j:Nat}{N:List (Nat × T)}{q1 q2 p1 p2:Nat}{X:Mk}{l:List Nat}
theorem zlg (hc:zee c (again j X l))(hl:∀ p∈l,p<X.ins.length):Ends c E ((X.ins.length+1:Nat):Int) f r 2 [((j:Int),f)] []:=by
 obtain⟨-,h2,h3⟩:=zrn (j:=j) hl
 have hlen:=zek j X l
 rw[←hc _ (by omega)] at h2 h3
 have a:=Does.hold (E:=E) (f:=f) (r:=r) h2 (show(28:Int)=28 from rfl)
 have b:=Ends.stop (E:=E) (f:=f) (r:=r) h3 (show(30:Int)=30 from rfl)
 exact a.ends b
theorem zgq (hc:zee c (again j X l))(hl:∀ p∈l,p<X.ins.length):Ends c E (X.ins.length:Int) f r 1 [] []:=by
 obtain⟨h1, -, -⟩:=zrn (j:=j) hl
 have hlen:=zek j X l
 rw[←hc _ (by omega)] at h1
 exact Ends.stop h1 (show(30:Int)=30 from rfl)
theorem zie (hc:zee c (again j X l)){p:Nat}{x:Ix}(hp:p∈l)(hx:X.ins[p]? = some x):c.ins[p]? = some (reTo x ((X.ins.length+1:Nat):Int)):=by
 have hlen:=zek j X l
 have h1:=(List.getElem?_eq_some_iff.1 hx).1
 rw[hc _ (by omega),zud h1,if_pos hp,hx]
 rfl
theorem zmp (hc:zee c (again j X l)){p:Nat}{x:Ix}(hp:p∉l)(hx:X.ins[p]? = some x):c.ins[p]? = some x:=by
 have hlen:=zek j X l
 have h1:=(List.getElem?_eq_some_iff.1 hx).1
 rw[hc _ (by omega),zud h1,if_neg hp,hx]
theorem zfy (hc:zee c (again j X l)){Y:Mk}{n:Nat}(hY:∀ p,n≤p→p<Y.ins.length→X.ins[p]? = Y.ins[p]?)(h:∀ p∈l,n≤p→p<Y.ins.length→Two Y p):Ag c n Y:=by
 intro p x hp hx
 have h1:=(List.getElem?_eq_some_iff.1 hx).1
 have hX:=hY p hp h1
 rw[hx] at hX
 by_cases hl:p∈l
 ·refine⟨_,zie hc hl hX,fun h2=>?_⟩
  obtain⟨y,hy,hy2⟩:=h p hl hp h1
  rw[hx] at hy
  cases hy
  exact absurd hy2 h2
 ·exact⟨x.to,zmp hc hl hX,fun _=>rfl⟩
theorem zmi {p:Nat}{n L:Int}(h:c.ins[p]? = some (reTo (ix 21 0 0 n) L)):Steps c E p f r (if n<E.day then L else((p+1:Nat):Int)) f r 1:=by
 refine Steps.one h ?_
 show Vm.Act.next (if decide (n<E.day)=true then L else(p:Int)+1) f r=_
 by_cases h:n<E.day
 ·rw[if_pos h,if_pos (by rw[decide_eq_true_eq]; exact h)]
 ·rw[if_neg h,if_neg (by rw[decide_eq_true_eq]; exact h)]; rfl
theorem zxa {p:Nat}{n L:Int}(h:c.ins[p]? = some (reTo (ix 22 0 0 n) L)):Steps c E p f r (if E.day<n then L else((p+1:Nat):Int)) f r 1:=by
 refine Steps.one h ?_
 show Vm.Act.next (if decide (E.day<n)=true then L else(p:Int)+1) f r=_
 by_cases h:E.day<n
 ·rw[if_pos h,if_pos (by rw[decide_eq_true_eq]; exact h)]
 ·rw[if_neg h,if_neg (by rw[decide_eq_true_eq]; exact h)]; rfl
def No:Int→Prop:=fun _=>False
theorem zld {m:Mk}(hn:m.next=0)(hk:m.known=zhf):Fine c E sh No m Vm.zeros:=⟨by omega,fun x hx=>hx.elim,zlm,fun _ v x hx=>by rw[hk] at hx; cases hx⟩
theorem Match.one {t:T}(hJ:J j t p1 p2):Match J [((j:Int),f)] (zdg t f).1 p1 p2:=Match.cons (q1:=0) (q2:=0) hJ .nil
theorem qga (hR:Gen.right c=true)(he:EnvOk E){n:Int}{s:ByteArray}{a:T}{m:Mk}(ha:a.letter=99)(da:a.depth≤d)(hn:m.next=0)(hk:m.known=zhf)
  (hX:con sh d a (m.lay (ix 22 0 0 n))=X) (hc:zee c (again j X [m.ins.length])) (hN:X.jobs=m.jobs++N) (hq:Cost (JobQ c E J) N q1 q2) (hJ:J j (.mk 29 n s [a]) p1 p2) (h1:X.ins.length+3+q1≤p1+m.ins.length) (h2:q2≤p2):zdy c E J m.ins.length (den E (.mk 29 n s [a])) p1 p2:=by
 intro f
 have lA:(m.lay (ix 22 0 0 n)).ins.length=m.ins.length+1:=zae _ _
 have lX:(m.lay (ix 22 0 0 n)).ins.length≤X.ins.length:=by rw[←hX]; exact zeb ..
 have hl:∀ p∈[m.ins.length],p<X.ins.length:=fun p hp=>by rw[List.mem_singleton] at hp; omega
 have kX:Fz (m.lay (ix 22 0 0 n)).ins.length (m.lay (ix 22 0 0 n)).ins X:=by rw[←hX]; exact zde sh d a _
 have hj:=zxa (E:=E) (f:=f) (r:=Vm.zeros) (zie hc (List.mem_singleton.2 rfl) (show X.ins[m.ins.length]? = some (ix 22 0 0 n) by rw[kX _ (by omega)]; exact zbp _ _))
 rw[zph]
 by_cases hd:E.day<n
 ·rw[if_pos hd] at hj ⊢
  exact⟨1+2,_,p1,p2,hj.ends (zlg hc hl),Match.one hJ,by omega,Nat.le_refl _,Nat.le_refl _⟩
 ·rw[if_neg hd] at hj ⊢
  have hA:Ag c (m.lay (ix 22 0 0 n)).ins.length X:=zfy hc (fun p _ _=>rfl) fun p hp h3 h4=>by rw[List.mem_singleton] at hp; omega
  have:=zha (J:=J) hR he d a (m.lay (ix 22 0 0 n)) N q1 q2 No Vm.zeros f ha da (zld hn hk) (by rw[hX]; exact hA) (by rw[hX,hN]; rfl) hq
  rw[hX] at this
  obtain⟨k,hs,f',r',a1,a2,g1,g2,g3,g4,g5, -, -, -⟩:=this
  rw[lA] at g1
  have:=(hj.does g1).ends (zgq (E:=E) (f:=f') (r:=r') hc hl)
  rw[List.append_nil,List.append_nil] at this
  exact⟨1+k+1,hs,a1,a2,this,g2,by omega,by omega,by omega⟩
theorem zmc {m m':Mk}{u:List Nat}{r0:List Int}{k0:Nat}{at':Int}(h:Lost c E m m' u f r)(hs:Steps c E at' f r0 m.ins.length f r k0)(hc:zee c (again j X l))(hl:∀ p∈l,p<X.ins.length)(hu:∀ p∈u,p∈l):∃ k,Ends c E at' f r0 (k0+k+2) [((j:Int),f)] []∧k+m.ins.length≤m'.ins.length:=by
 obtain⟨k,r',p,x,g1,g2,g3,g4,g5⟩:=h
 have hp:=hl p (hu p g1)
 have hx:=zie hc (hu p g1) (List.getElem?_eq_getElem hp)
 rw[g3] at hx
 cases hx
 exact⟨k,(hs.trans g4).ends (zlg hc hl),g5⟩
theorem qbe (hR:Gen.right c=true)(he:EnvOk E){n:Int}{s:ByteArray}{o a:T}{m X':Mk}{O:Ob}(ho:o.letter=98)(do':o.depth≤d)(ha:a.letter=99)(da:a.depth≤d)(hn:m.next=0)(hk:m.known=zhf)
  (hO:obs sh d o (m.lay (ix 21 0 0 n)) []=O) (hX:con sh d a (O.2.1.lay (ix 19 0 O.1 0))=X) (hX':X.here m.ins.length=X') (hc:zee c (again j X' (O.2.2++[O.2.1.ins.length]))) (hN:X.jobs=m.jobs++N) (hq:Cost (JobQ c E J) N q1 q2) (hJ:J j (.mk 30 n s [o,a]) p1 p2)
  (h1:X.ins.length+3+q1≤p1+m.ins.length) (h2:q2≤p2):zdy c E J m.ins.length (den E (.mk 30 n s [o,a])) p1 p2:=by
 intro f
 have lP:(m.lay (ix 21 0 0 n)).ins.length=m.ins.length+1:=zae _ _
 have lO:=zap sh d o (m.lay (ix 21 0 0 n)) []
 have nO:=zdv sh d o (m.lay (ix 21 0 0 n)) [] (zbd ho) do'
 have wO:=zfl sh d o (m.lay (ix 21 0 0 n)) [] (fun p hp=>by cases hp)
 have uO:=zmx sh d o (m.lay (ix 21 0 0 n)) []
 have tO:=zpv sh d o (m.lay (ix 21 0 0 n)) []
 have kO:=zks sh d o (m.lay (ix 21 0 0 n)) []
 have jO:=zcx sh d o (m.lay (ix 21 0 0 n)) []
 rw[hO] at lO nO wO uO tO kO jO
 obtain⟨A,hA⟩:∃ A,O.2.1.lay (ix 19 0 O.1 0)=A:=⟨_,rfl⟩
 rw[hA] at hX
 have lA:A.ins.length=O.2.1.ins.length+1:=by rw[←hA,zae]
 have lX:A.ins.length≤X.ins.length:=by rw[←hX]; exact zeb ..
 have lX':X'.ins.length=X.ins.length:=by rw[←hX',zaf]
 have kX:Fz A.ins.length A.ins X:=by rw[←hX]; exact zde sh d a A
 have iX:∀ p,p<O.2.1.ins.length→X.ins[p]? = O.2.1.ins[p]?:=fun p hp=>by rw[kX _ (by omega),←hA,zbo _ _ hp]
 have iX':∀ p,p≠m.ins.length→X'.ins[p]? = X.ins[p]?:=fun p hp=>by rw[←hX',zcs _ (Ne.symm hp)]
 have hu:∀ p∈O.2.2,m.ins.length+1≤p∧p<O.2.1.ins.length:=fun p hp=>⟨by rcases uO p hp with h|h; cases h; omega,wO p hp⟩
 have hl:∀ p∈O.2.2++[O.2.1.ins.length],p<X'.ins.length:=fun p hp=>by
  rcases List.mem_append.1 hp with h|h
  ·have:=hu p h; omega
  ·rw[List.mem_singleton] at h; omega
 have hl0:m.ins.length∉O.2.2++[O.2.1.ins.length]:=fun hp=>by
  rcases List.mem_append.1 hp with h|h
  ·have:=hu _ h; omega
  ·rw[List.mem_singleton] at h; omega
 have hj:=zmi (E:=E) (f:=f) (r:=Vm.zeros) (zmp hc hl0 (show X'.ins[m.ins.length]? = some (reTo (ix 21 0 0 n) X.ins.length) by
  rw[←hX']
  refine zev X ?_
  rw[iX _ (by omega),kO _ (by omega)]; exact zbp _ _))
 rw[zkb]
 by_cases hd:n<E.day
 ·rw[if_pos hd] at hj ⊢
  rw[←lX'] at hj
  exact⟨1+1,[],0,0,hj.ends (zgq hc hl),.nil,by omega,Nat.zero_le _,Nat.zero_le _⟩
 ·rw[if_neg hd] at hj ⊢
  rw[←lP] at hj
  have gO:Ag c (m.lay (ix 21 0 0 n)).ins.length O.2.1:=zfy hc (fun p hp hp2=>by rw[iX' p (by omega),iX p hp2]) fun p hp h3 h4=>by
   rcases List.mem_append.1 hp with h|h
   ·rcases tO p h with h5|h5
    ·cases h5
    ·exact h5
   ·rw[List.mem_singleton] at h; omega
  have hf:=zld (c:=c) (E:=E) (sh:=sh) (m:=m.lay (ix 21 0 0 n)) hn hk
  have hs:=zjt (f:=f) hR he d o (m.lay (ix 21 0 0 n)) [] No Vm.zeros (zbd ho) do' hf (by rw[hO]; exact gO)
  rw[hO] at hs
  cases hv:bval E o with
  |none=>
   rw[hv] at hs
   obtain⟨k,g1,g2⟩:=zmc (show Lost c E _ O.2.1 O.2.2 f _ from hs) hj hc hl fun p hp=>List.mem_append_left _ hp
   exact⟨_,_,p1,p2,g1,Match.one hJ,by omega,Nat.le_refl _,Nat.le_refl _⟩
  |some v=>
   rw[hv] at hs
   obtain⟨k1,r1,s1,b1,g1,P1,v1,kn1,gn1⟩:=hs
   have hj2:=zgm (E:=E) (f:=f) (r:=r1) (zie hc (p:=O.2.1.ins.length) (x:=ix 19 0 O.1 0) (by simp) (by rw[iX' _ (by omega),kX _ (by omega),←hA]; exact zbp _ _))
   rw[v1] at hj2
   simp only
   by_cases h0:v=0
   ·rw[if_pos h0] at hj2 ⊢
    exact⟨_,_,p1,p2,((hj.trans s1).trans hj2).ends (zlg hc hl),Match.one hJ,by omega,Nat.le_refl _,Nat.le_refl _⟩
   ·rw[if_neg h0,←lA] at hj2
    rw[if_neg h0]
    have gA:Ag c A.ins.length X:=zfy hc (fun p hp hp2=>iX' p (by omega)) fun p hp h3 h4=>by
     rcases List.mem_append.1 hp with h|h
     ·have:=hu p h; omega
     ·rw[List.mem_singleton] at h; omega
    have ff:=zds (m1:=O.2.1) hf nO g1 kn1
    have ff2:Fine c E sh (Gn No (m.lay (ix 21 0 0 n)) O.2.1) A r1:=zhp ff (by rw[←hA]; exact Int.le_refl _) (by rw[←hA]; rfl)
    have jA:A.jobs=m.jobs:=by rw[←hA]; exact congrArg Prod.fst jO
    have:=zha (J:=J) hR he d a A N q1 q2 _ r1 f ha da ff2 (by rw[hX]; exact gA) (by rw[hX,hN,jA]) hq
    rw[hX] at this
    obtain⟨k,hs,f',r',a1,a2,u1,u2,u3,u4,u5, -, -, -⟩:=this
    rw[←lX'] at u1
    have:=(((hj.trans s1).trans hj2).does u1).ends (zgq (E:=E) (f:=f') (r:=r') hc hl)
    rw[List.append_nil,List.append_nil] at this
    exact⟨_,hs,a1,a2,this,u2,by omega,by omega,by omega⟩
end
end Sm
end
section
open Go.RowKit
namespace Sm
open Co Gen Dn Gf
theorem zrf (sh:Bool)(d:Nat)(rg:Int)(t:T)(m:Mk){n:Nat}{l:List Ix}(h:Fz n l m)(hn:n≤m.ins.length):Fz n l (either (con sh d) rg t m)∧m.ins.length+2≤(either (con sh d) rg t m).ins.length:=by
 obtain⟨A,B,C,D,hA,hB,hC,hD,e⟩:=zba (con sh d) rg t m
 rw[e]
 have lA:A.ins.length=m.ins.length+1:=by rw[hA,zae]
 have lB:A.ins.length≤B.ins.length:=by rw[hB]; exact zeb ..
 have lC:C.ins.length=B.ins.length+1:=by rw[hC,zaf,zae,zai]
 have lD:C.ins.length≤D.ins.length:=by rw[hD]; exact zeb ..
 have gA:Fz n l A:=by rw[hA]; exact h.lay hn _
 have gB:Fz n l B:=by rw[hB]; exact zmn sh d _ A _ _ gA (by omega)
 have gC:Fz n l C:=by rw[hC]; exact((gB.back _).lay (by rw[zai]; omega) _).here hn
 have gD:Fz n l D:=by rw[hD]; exact zmn sh d _ C _ _ gC (by omega)
 exact⟨(gD.back _).here (by rw[zai]; omega),by rw[zaf,zai]; omega⟩
theorem qae (sh:Bool)(d:Nat)(rg:Int)(t:T)(m:Mk):Js m (either (con sh d) rg t m):=by
 obtain⟨A,B,C,D,hA,hB,hC,hD,e⟩:=zba (con sh d) rg t m
 rw[e]
 have jA:Js m A:=by rw[hA]; exact Js.same rfl
 have jB:Js A B:=by rw[hB]; exact zfu ..
 have jC:Js B C:=by rw[hC]; exact Js.same rfl
 have jD:Js C D:=by rw[hD]; exact zfu ..
 exact(((jA.trans jB).trans jC).trans jD).then rfl
section
variable {c:Cd}{E:Vm.Env}{J:Nat→T→Nat→Nat→Prop}{sh:Bool}{f:Int}{r:List Int}{d j:Nat}{N:List (Nat × T)}{q1 q2 p1 p2:Nat}{X:Mk}{l:List Nat}
theorem zyf (hR:Gen.right c=true)(he:EnvOk E){n:Int}{s:ByteArray}{o a:T}{m:Mk}{O:Ob}(ho:o.letter=110)(do':o.depth≤d)(ha:a.letter=99)(da:a.depth≤d)(hn:m.next=0)(hk:m.known=zhf)
  (hO:obs sh d o m []=O) (hX:con sh d a (O.2.1.lay (ix 23 0 O.1 0))=X) (hc:zee c (again j X O.2.2)) (hN:X.jobs=m.jobs++N) (hq:Cost (JobQ c E J) N q1 q2) (hJ:J j (.mk 26 n s [o,a]) p1 p2)
  (h1:X.ins.length+3+q1≤p1+m.ins.length) (h2:q2≤p2):zdy c E J m.ins.length (den E (.mk 26 n s [o,a])) p1 p2:=by
 intro f
 have lO:=zap sh d o m []
 have nO:=zdv sh d o m [] (zaz ho) do'
 have wO:=zfl sh d o m [] (fun p hp=>by cases hp)
 have tO:=zpv sh d o m []
 have kO:=zks sh d o m []
 have jO:=zcx sh d o m []
 rw[hO] at lO nO wO tO kO jO
 obtain⟨A,hA⟩:∃ A,O.2.1.lay (ix 23 0 O.1 0)=A:=⟨_,rfl⟩
 rw[hA] at hX
 have lA:A.ins.length=O.2.1.ins.length+1:=by rw[←hA,zae]
 have lX:A.ins.length≤X.ins.length:=by rw[←hX]; exact zeb ..
 have kX:Fz A.ins.length A.ins X:=by rw[←hX]; exact zde sh d a A
 have iX:∀ p,p<O.2.1.ins.length→X.ins[p]? = O.2.1.ins[p]?:=fun p hp=>by rw[kX _ (by omega),←hA,zbo _ _ hp]
 have hl:∀ p∈O.2.2,p<X.ins.length:=fun p hp=>by have:=wO p hp; omega
 have gO:Ag c m.ins.length O.2.1:=zfy hc (fun p hp hp2=>iX p hp2) fun p hp h3 h4=>by
  rcases tO p hp with h5|h5
  ·cases h5
  ·exact h5
 have hf:=zld (c:=c) (E:=E) (sh:=sh) (m:=m) hn hk
 have hs:=zjt (f:=f) hR he d o m [] No Vm.zeros (zaz ho) do' hf (by rw[hO]; exact gO)
 rw[hO] at hs
 rw[zmm]
 cases hv:bval E o with
 |none=>
  rw[hv] at hs
  obtain⟨k,g1,g2⟩:=zmc (show Lost c E _ O.2.1 O.2.2 f _ from hs) Steps.refl hc hl fun p hp=>hp
  exact⟨_,_,p1,p2,g1,Match.one hJ,by omega,Nat.le_refl _,Nat.le_refl _⟩
 |some v=>
  rw[hv] at hs
  obtain⟨k1,r1,s1,b1,g1,P1,v1,kn1,gn1⟩:=hs
  have hin:=zmp hc (p:=O.2.1.ins.length) (x:=ix 23 0 O.1 0) (fun h=>by have:=wO _ h; omega) (by rw[kX _ (by omega),←hA]; exact zbp _ _)
  have s2:Steps c E m.ins.length f Vm.zeros A.ins.length (E.mul f v) r1 (k1+1):=by
   rw[lA,←v1]
   exact s1.trans (Steps.one hin (zro (z:=0)))
  have gA:Ag c A.ins.length X:=zfy hc (fun p hp hp2=>rfl) fun p hp h3 h4=>by have:=wO p hp; omega
  have ff:=zds (m1:=O.2.1) hf nO g1 kn1
  have ff2:Fine c E sh (Gn No m O.2.1) A r1:=zhp ff (by rw[←hA]; exact Int.le_refl _) (by rw[←hA]; rfl)
  have jA:A.jobs=m.jobs:=by rw[←hA]; exact congrArg Prod.fst jO
  have:=zha (J:=J) hR he d a A N q1 q2 _ r1 (E.mul f v) ha da ff2 (by rw[hX]; exact gA) (by rw[hX,hN,jA]) hq
  rw[hX] at this
  obtain⟨k,hs,f',r',a1,a2,u1,u2,u3,u4,u5, -, -, -⟩:=this
  have:=(s2.does u1).ends (zgq (E:=E) (f:=f') (r:=r') hc hl)
  rw[List.append_nil,List.append_nil] at this
  exact⟨_,hs,a1,a2,this,u2,by omega,by omega,by omega⟩
theorem qfb (hR:Gen.right c=true)(he:EnvOk E){n:Int}{s:ByteArray}{o a b:T}{m:Mk}{O:Ob}(ho:o.letter=98)(do':o.depth≤d)(ha:a.letter=99)(da:a.depth≤d)(hb:b.letter=99)(db:b.depth≤d)(hn:m.next=0)(hk:m.known=zhf)
  (hO:obs sh d o m []=O) (hX:either (con sh d) O.1 (.mk 28 n s [o,a,b]) O.2.1=X) (hc:zee c (again j X O.2.2)) (hN:X.jobs=m.jobs++N) (hq:Cost (JobQ c E J) N q1 q2) (hJ:J j (.mk 28 n s [o,a,b]) p1 p2)
  (h1:X.ins.length+3+q1≤p1+m.ins.length) (h2:q2≤p2):zdy c E J m.ins.length (den E (.mk 28 n s [o,a,b])) p1 p2:=by
 intro f
 have lO:=zap sh d o m []
 have nO:=zdv sh d o m [] (zbd ho) do'
 have wO:=zfl sh d o m [] (fun p hp=>by cases hp)
 have tO:=zpv sh d o m []
 have jO:=zcx sh d o m []
 rw[hO] at lO nO wO tO jO
 obtain⟨kX,lX⟩:=zrf sh d O.1 (.mk 28 n s [o,a,b]) O.2.1 (n:=O.2.1.ins.length) (l:=O.2.1.ins) (fun p _=>rfl) (Nat.le_refl _)
 rw[hX] at kX lX
 have hl:∀ p∈O.2.2,p<X.ins.length:=fun p hp=>by have:=wO p hp; omega
 have gO:Ag c m.ins.length O.2.1:=zfy hc (fun p hp hp2=>kX p hp2) fun p hp h3 h4=>by
  rcases tO p hp with h5|h5
  ·cases h5
  ·exact h5
 have hf:=zld (c:=c) (E:=E) (sh:=sh) (m:=m) hn hk
 have hs:=zjt (f:=f) hR he d o m [] No Vm.zeros (zbd ho) do' hf (by rw[hO]; exact gO)
 rw[hO] at hs
 rw[zkc]
 cases hv:bval E o with
 |none=>
  rw[hv] at hs
  obtain⟨k,g1,g2⟩:=zmc (show Lost c E _ O.2.1 O.2.2 f _ from hs) Steps.refl hc hl fun p hp=>hp
  exact⟨_,_,p1,p2,g1,Match.one hJ,by omega,Nat.le_refl _,Nat.le_refl _⟩
 |some v=>
  rw[hv] at hs
  obtain⟨k1,r1,s1,b1,g1,P1,v1,kn1,gn1⟩:=hs
  have gA:Ag c O.2.1.ins.length X:=zfy hc (fun p hp hp2=>rfl) fun p hp h3 h4=>by have:=wO p hp; omega
  have ff:=zds (m1:=O.2.1) hf nO g1 kn1
  have jA:O.2.1.jobs=m.jobs:=congrArg Prod.fst jO
  have:=zpc (J:=J) (f:=f) (zha hR he d) (n:=n) (s:=s) (o:=o) (rg:=O.1) ha hb da db ff (by rw[hX]; exact gA) (by rw[hX,hN,jA]) hq
  rw[hX,v1] at this
  obtain⟨k,hs,f',r',a1,a2,u1,u2,u3,u4,u5, -, -, -⟩:=this
  have:=(s1.does u1).ends (zgq (E:=E) (f:=f') (r:=r') hc hl)
  rw[List.append_nil,List.append_nil] at this
  exact⟨_,hs,a1,a2,this,u2,by omega,by omega,by omega⟩
theorem qcn (hR:Gen.right c=true)(he:EnvOk E){n:Int}{s:ByteArray}{a b:T}{m A B C D W:Mk}(ha:a.letter=99)(da:a.depth≤d)(hb:b.letter=99)(db:b.depth≤d)(hn:m.next=0)(hk:m.known=zhf)
  (hA:A=((m.lay (ix 21 0 0 n)).lay (ix 28 0 0 j)).fin) (hC:C=con sh d a (A.lay (ix 21 0 0 n))) (hB:B=(C.fin.here m.ins.length).here A.ins.length) (hD:D=con sh d b B.fresh) (hW:W.ins=D.fin.ins)
  (hc:zee c W) (hN:D.jobs=m.jobs++N) (hq:Cost (JobQ c E J) N q1 q2) (hJ:J j (.mk 31 n s [a,b]) p1 p2)
  (h1:W.ins.length+q1≤p1+m.ins.length) (h2:q2≤p2):zdy c E J m.ins.length (den E (.mk 31 n s [a,b])) p1 p2 ∧
   zdy c E J A.ins.length (fun f=>if n<E.day then den E b f else den E a f) p1 p2∧zdy c E J B.ins.length (den E b) p1 p2:=by
 have l0:(m.lay (ix 21 0 0 n)).ins.length=m.ins.length+1:=zae _ _
 have l1:((m.lay (ix 21 0 0 n)).lay (ix 28 0 0 j)).ins.length=m.ins.length+2:=by rw[zae,l0]
 have lA:A.ins.length=m.ins.length+3:=by rw[hA]; show(Mk.lay _ _).ins.length=_; rw[zae,l1]
 have lP:(A.lay (ix 21 0 0 n)).ins.length=A.ins.length+1:=zae _ _
 have lC:A.ins.length+1≤C.ins.length:=by rw[hC,←lP]; exact zeb ..
 have lB:B.ins.length=C.ins.length+1:=by rw[hB,zaf,zaf]; exact zae _ _
 have lD:B.ins.length≤D.ins.length:=by rw[hD]; exact zeb sh d b B.fresh
 have lW:W.ins.length=D.ins.length+1:=by rw[hW]; exact zae _ _
 have kC:∀ p,p<A.ins.length+1→C.ins[p]? = (A.lay (ix 21 0 0 n)).ins[p]?:=fun p hp=>by rw[hC]; exact zde sh d a _ p (by omega)
 have kD:∀ p,p<B.ins.length→D.ins[p]? = B.ins[p]?:=fun p hp=>by rw[hD]; exact zde sh d b B.fresh p hp
 have iW:∀ p,p<D.ins.length→W.ins[p]? = D.ins[p]?:=fun p hp=>by rw[hW]; exact zbo D _ hp
 have iB:∀ p,p<C.ins.length→p≠m.ins.length→p≠A.ins.length→B.ins[p]? = C.ins[p]?:=fun p hp h2 h3=>by rw[hB,zcs _ (Ne.symm h3),zcs _ (Ne.symm h2)]; exact zbo C _ hp
 have iA:∀ p x,p<A.ins.length→p≠m.ins.length→A.ins[p]? = some x→c.ins[p]? = some x:=fun p x hp h2 hx=>by
  rw[hc _ (by omega),iW _ (by omega),kD _ (by omega),iB _ (by omega) h2 (by omega),kC _ (by omega),zbo _ _ hp]; exact hx
 have a1:A.ins[m.ins.length+1]? = some (ix 28 0 0 j):=by
  rw[hA]
  show(Mk.lay _ _).ins[_]? = _
  rw[zbo _ _ (by omega),←l0]; exact zbp _ _
 have a2:A.ins[m.ins.length+2]? = some (ix 30 0 0 0):=by
  rw[hA]
  show(Mk.lay _ _).ins[_]? = _
  rw[←l1]; exact zbp _ _
 have a0:C.fin.ins[m.ins.length]? = some (ix 21 0 0 n):=by
  show(Mk.lay C _).ins[_]? = _
  rw[zbo _ _ (by omega),kC _ (by omega),zbo _ _ (by omega),hA]
  show(Mk.lay _ _).ins[_]? = _
  rw[zbo _ _ (by omega),zbo _ _ (by omega)]; exact zbp _ _
 have a3:C.fin.ins[A.ins.length]? = some (ix 21 0 0 n):=by
  show(Mk.lay C _).ins[_]? = _
  rw[zbo _ _ (by omega),kC _ (by omega)]; exact zbp _ _
 have lf:C.fin.ins.length=C.ins.length+1:=zae _ _
 have c0:c.ins[m.ins.length]? = some (reTo (ix 21 0 0 n) B.ins.length):=by
  rw[hc _ (by omega),iW _ (by omega),kD _ (by omega),hB,zcs _ (by omega),zev _ a0,zaf,zaf]
 have c3:c.ins[A.ins.length]? = some (reTo (ix 21 0 0 n) B.ins.length):=by
  rw[hc _ (by omega),iW _ (by omega),kD _ (by omega),hB]
  have:=zev (C.fin.here m.ins.length) (q:=A.ins.length) (x:=ix 21 0 0 n) (by rw[zcs _ (by omega)]; exact a3)
  rw[this,zaf,zaf,zaf]
 have c1:=iA _ _ (by omega) (by omega) a1
 have c2:=iA _ _ (by omega) (by omega) a2
 have cC:c.ins[C.ins.length]? = some (ix 30 0 0 0):=by
  rw[hc _ (by omega),iW _ (by omega),kD _ (by omega),hB,zcs _ (by omega),zcs _ (by omega)]; exact zbp C _
 have cD:c.ins[D.ins.length]? = some (ix 30 0 0 0):=by
  rw[hc _ (by omega),hW]; exact zbp D _
 have gC:Ag c (A.ins.length+1) C:=fun p x hp hx=>by
  have:=(List.getElem?_eq_some_iff.1 hx).1
  exact⟨x.to,by rw[hc _ (by omega),iW _ (by omega),kD _ (by omega),iB _ (by omega) (by omega) (by omega),hx]; rfl,fun _=>rfl⟩
 have gD:Ag c B.ins.length D:=fun p x hp hx=>by
  have:=(List.getElem?_eq_some_iff.1 hx).1
  exact⟨x.to,by rw[hc _ (by omega),iW _ (by omega),hx]; rfl,fun _=>rfl⟩
 have e1:(A.lay (ix 21 0 0 n)).jobs=m.jobs:=by rw[hA]; rfl
 have e2:(A.lay (ix 21 0 0 n)).next=0:=by rw[hA]; exact hn
 have e3:(A.lay (ix 21 0 0 n)).known=zhf:=by rw[hA]; exact hk
 have e4:B.fresh.jobs=C.jobs:=by rw[hB]; rfl
 have jm:Js m C:=(show Js m (A.lay (ix 21 0 0 n)) from Js.same (by rw[hA]; rfl)).trans (by rw[hC]; exact zfu ..)
 have jD:Js C D:=(show Js C B.fresh from Js.same (by rw[hB]; rfl)).trans (by rw[hD]; exact zfu ..)
 obtain⟨X,Y,hX,hY,rfl⟩:=znz jm jD hN
 obtain⟨x1,x2,y1,y2,cX,cY,rfl,rfl⟩:=hq.split
 have sB:∀ f,∃ k hs a1 a2,Ends c E B.ins.length f Vm.zeros k hs (den E b f).2∧Match J hs (den E b f).1 a1 a2∧k+B.ins.length≤D.ins.length+y1+1∧a1≤y1∧a2≤y2:=fun f=>by
  have:=zha (J:=J) (sh:=sh) hR he d b B.fresh Y y1 y2 No Vm.zeros f hb db (zld rfl rfl) (by rw[←hD]; exact gD) (by rw[←hD,hY,e4]) cY
  rw[←hD] at this
  obtain⟨k,hs,f',r',a1,a2,u1,u2,u3,u4,u5, -, -, -⟩:=this
  have u1:Does c E B.ins.length f Vm.zeros D.ins.length f' r' k hs (den E b f).2:=u1
  have u3:k+B.ins.length≤D.ins.length+y1:=u3
  have g:=u1.ends (Ends.stop (E:=E) (f:=f') (r:=r') cD (show(30:Int)=30 from rfl))
  rw[List.append_nil,List.append_nil] at g
  exact⟨_,hs,a1,a2,g,u2,by omega,u4,u5⟩
 refine⟨fun f=>?_,fun f=>?_,fun f=>?_⟩
 ·have hj:=zmi (E:=E) (f:=f) (r:=Vm.zeros) c0
  rw[zpg]
  by_cases hd:n<E.day
  ·rw[if_pos hd] at hj ⊢
   obtain⟨k,hs,a1,a2,g1,g2,g3,g4,g5⟩:=sB f
   exact⟨_,hs,a1,a2,hj.ends g1,g2,by omega,by omega,by omega⟩
  ·rw[if_neg hd] at hj ⊢
   have g1:=Does.hold (E:=E) (f:=f) (r:=Vm.zeros) c1 (show(28:Int)=28 from rfl)
   have g2:=Ends.stop (E:=E) (f:=f) (r:=Vm.zeros) c2 (show(30:Int)=30 from rfl)
   exact⟨_,_,p1,p2,hj.ends (g1.ends g2),Match.one hJ,by omega,Nat.le_refl _,Nat.le_refl _⟩
 ·have hj:=zmi (E:=E) (f:=f) (r:=Vm.zeros) c3
  by_cases hd:n<E.day
  ·simp only[if_pos hd] at hj ⊢
   obtain⟨k,hs,a1,a2,g1,g2,g3,g4,g5⟩:=sB f
   exact⟨_,hs,a1,a2,hj.ends g1,g2,by omega,by omega,by omega⟩
  ·simp only[if_neg hd] at hj ⊢
   have:=zha (J:=J) (sh:=sh) hR he d a (A.lay (ix 21 0 0 n)) X x1 x2 No Vm.zeros f ha da (zld e2 e3) (by rw[←hC,lP]; exact gC) (by rw[←hC,hX,e1]) cX
   rw[←hC] at this
   obtain⟨k,hs,f',r',a1,a2,u1,u2,u3,u4,u5, -, -, -⟩:=this
   rw[lP] at u1
   have g:=(hj.does u1).ends (Ends.stop (E:=E) (f:=f') (r:=r') cC (show(30:Int)=30 from rfl))
   rw[List.append_nil,List.append_nil] at g
   rw[lP] at u3
   exact⟨_,hs,a1,a2,g,u2,by omega,by omega,by omega⟩
 ·obtain⟨k,hs,a1,a2,g1,g2,g3,g4,g5⟩:=sB f
  exact⟨_,hs,a1,a2,g1,g2,by omega,by omega,by omega⟩
end
end Sm
end
section
open Go.RowKit
namespace Gf
open Co Gen Dn
theorem zrx {m m':Mk}{j:Nat}{w:Wt}(h:Ext m m')(hw:m.ws[j]? = some w):m'.ws[j]? = some w:=by
 obtain⟨l,hl⟩:=h.ws
 rw[←hl,List.getElem?_append_left (List.getElem?_eq_some_iff.1 hw).1]
 exact hw
theorem zox:∀(l:List Nat) (m:Mk),(hereAll m l).ws=m.ws∧(hereAll m l).jobs=m.jobs∧(hereAll m l).regs=m.regs∧(hereAll m l).ins.length=m.ins.length
 | [],m=>⟨rfl,rfl,rfl,rfl⟩
 |p::r,m=>by
  obtain⟨h1,h2,h3,h4⟩:=zox r (m.here p)
  exact⟨h1,h2,h3,h4.trans (zaf m p)⟩
theorem zqe {op n:Int}{s:ByteArray}{ks:List T}(h:(T.mk op n s ks).letter=99)(ho:op=29∨op=30∨op=31):0≤n∧n≤73048:=by
 obtain⟨-,hf⟩:=letter_inv h (by decide) (by omega)
 rcases ho with rfl|rfl|rfl
 ·exact zix (.inr (.inl rfl)) hf
 ·exact zix (.inr (.inr rfl)) hf
 ·simp[fields,Gen.within] at hf
  omega
theorem zyt {n:Int}{s:ByteArray}{ks:List T}(h:(T.mk 31 n s ks).letter=99):Led.isName s=true:=by
 obtain⟨-,hf⟩:=letter_inv h (by decide) (by decide)
 simp[fields] at hf
 exact hf.1
theorem zpd {con:T→Mk→Mk}(r:Int)(t:T)(m:Mk)(hc:∀(t:T) (m:Mk),Ext m (con t m)):Ext m (either con r t m):=by
 obtain⟨A,B,C,D,hA,hB,hC,hD,e⟩:=zba con r t m
 have h1:Ext m A:=by rw[hA]; exact(Ext.refl m).lay _
 have h2:Ext m B:=by rw[hB]; exact h1.trans (hc _ _)
 have h3:Ext m C:=by rw[hC]; exact((h2.back _).lay _).here _
 have h4:Ext m D:=by rw[hD]; exact h3.trans (hc _ _)
 rw[e]
 exact(h4.back _).here _
def Mk.code (m:Mk):Cd:=⟨m.regs,m.ws,m.ins⟩
end Gf
end
section
open Go.RowKit
namespace Sm
open Co Gen Dn Gf
def Lb (m:Mk):Prop:=∀ x∈m.jobs,∃ w,m.ws[x.1]? = some w∧w.label=txt0
theorem Lb.step {m m':Mk}(h:Lb m)(e:jw m'=jw m)(x:Ext m m'):Lb m':=fun y hy=>by
 have:m'.jobs=m.jobs:=congrArg Prod.fst e
 rw[this] at hy
 obtain⟨w,hw,hl⟩:=h y hy
 exact⟨w,zrx x hw,hl⟩
theorem Lb.call {m:Mk}(h:Lb m)(t:T):Lb (m.call t):=fun y hy=>by
 rcases List.mem_append.1 (show y∈m.jobs++[(m.ws.length,t)] from hy) with h1|h1
 ·obtain⟨w,hw,hl⟩:=h y h1
  exact⟨w,zrx ((Ext.refl m).call t) hw,hl⟩
 ·rw[List.mem_singleton] at h1
  subst h1
  exact⟨⟨0,0,txt0,0,0⟩,by show(m.ws++[_])[m.ws.length]? = _; simp,rfl⟩
theorem zpk (sh:Bool)(d:Nat):∀(t:T) (m:Mk),Lb m→Lb (con sh d t m):=by
 induction d with
 |zero=>intro t m h; exact h
 |succ d ih=>
  intro t m h
  have ho:∀(t:T),Lb (obs sh d t m []).2.1:=fun t=>h.step (zcx sh d t m []) (zfm sh d t m [])
  have hl:∀ {m':Mk} (x:Ix),Lb m'→Lb (m'.lay x):=fun x h=>h.step rfl ((Ext.refl _).lay x)
  rw[con]
  split
  ·exact h.call t
  ·refine Lb.step ?_ (zby _ sh _) ((Ext.refl _).free sh _)
   split
   ·exact hl _ h
   split
   ·exact ih _ _ (hl _ h)
   split
   ·exact ih _ _ (hl _ (ih _ _ (hl _ (h.step (m':=m.reg) rfl (Ext.refl m).reg))))
   split
   ·simp only
    exact ih _ _ (hl _ (ho _))
   split
   ·simp only
    obtain⟨A,B,C,D,hA,hB,hC,hD,e⟩:=zba (con sh d) (obs sh d (t.kid 0) m []).1 t (obs sh d (t.kid 0) m []).2.1
    rw[e]
    have gA:Lb A:=by rw[hA]; exact hl _ (ho _)
    have gB:Lb B:=by rw[hB]; exact ih _ _ gA
    have gC:Lb C:=by rw[hC]; exact gB.step rfl ((((Ext.refl B).back A.known).lay (ix 20 0 0 0)).here _)
    have gD:Lb D:=by rw[hD]; exact ih _ _ gC
    exact gD.step rfl (((Ext.refl D).back C.known).here _)
   ·exact h
theorem qad (sh:Bool)(d:Nat)(rg:Int)(t:T)(m:Mk)(h:Lb m):Lb (either (con sh d) rg t m):=by
 obtain⟨A,B,C,D,hA,hB,hC,hD,e⟩:=zba (con sh d) rg t m
 rw[e]
 have gA:Lb A:=by rw[hA]; exact h.step rfl ((Ext.refl _).lay _)
 have gB:Lb B:=by rw[hB]; exact zpk sh d _ _ gA
 have gC:Lb C:=by rw[hC]; exact gB.step rfl ((((Ext.refl B).back A.known).lay (ix 20 0 0 0)).here _)
 have gD:Lb D:=by rw[hD]; exact zpk sh d _ _ gC
 exact gD.step rfl (((Ext.refl D).back C.known).here _)
theorem zlt {m:Mk}{j:Nat}{w:Wt}{f:Wt→Wt}(h:m.ws[j]? = some w):(m.setW j f).ws[j]? = some (f w):=by
 show(m.ws.modify j f)[j]? = _
 rw[List.getElem?_modify,h]; simp
theorem zvs {m:Mk}{i j:Nat}{f:Wt→Wt}(h:i≠j):(m.setW j f).ws[i]? = m.ws[i]?:=by
 show(m.ws.modify j f)[i]? = _
 rw[List.getElem?_modify]; simp[Ne.symm h]
structure Wk (j:Nat)(m m':Mk):Prop where
 js:Js m m'
 fz:Fz m.ins.length m.ins m'
 le:m.ins.length≤m'.ins.length
 lb:(∀ x∈m.jobs,x.1≠j)→j<m.ws.length→Lb m→Lb m'
 ws:∀ i,i≠j→∀ w,m.ws[i]? = some w→m'.ws[i]? = some w
section
variable {j:Nat}{m m' m'':Mk}
theorem Wk.trans (h:Wk j m m')(k:Wk j m' m''):Wk j m m'':=by
 refine⟨h.js.trans k.js,fun p hp=>by rw[k.fz p (Nat.lt_of_lt_of_le hp h.le)]; exact h.fz p hp,Nat.le_trans h.le k.le,fun h1 h2 h3=>?_,fun i hi w hw=>k.ws i hi w (h.ws i hi w hw)⟩
 obtain⟨N,e1,e2,e3⟩:=h.js
 refine k.lb (fun x hx=>?_) (by omega) (h.lb h1 h2 h3)
 rw[e1] at hx
 rcases List.mem_append.1 hx with h4|h4
 ·exact h1 x h4
 ·have:x.1∈N.map Prod.fst:=List.mem_map_of_mem h4
  rw[e2,List.mem_range'_1] at this
  omega
theorem Wk.of (h1:Js m m')(h2:Ext m m')(h3:Fz m.ins.length m.ins m')(h4:m.ins.length≤m'.ins.length)(h5:Lb m→Lb m'):Wk j m m':=⟨h1,h3,h4,fun _ _ h=>h5 h,fun i _ w hw=>zrx h2 hw⟩
theorem Wk.con (sh:Bool)(d:Nat)(t:T)(m:Mk):Wk j m (Gf.con sh d t m):=Wk.of (zfu ..) (zgg ..) (zde sh d t m) (zeb ..) (zpk sh d t m)
theorem Wk.either (sh:Bool)(d:Nat)(rg:Int)(t:T)(m:Mk):Wk j m (Gf.either (Gf.con sh d) rg t m):=by
 obtain⟨h1,h2⟩:=zrf sh d rg t m (n:=m.ins.length) (l:=m.ins) (fun p _=>rfl) (Nat.le_refl _)
 exact Wk.of (qae ..) (zpd rg t m (zgg sh d)) h1 (by omega) (qad sh d rg t m)
theorem Wk.obs (sh:Bool)(d:Nat)(t:T)(m:Mk):Wk j m (Gf.obs sh d t m []).2.1:=Wk.of (Js.same (zcx ..)) (zfm ..) (zks sh d t m []) (zap ..) fun h=>h.step (zcx ..) (zfm ..)
theorem Wk.lay (m:Mk)(x:Ix):Wk j m (m.lay x):=Wk.of (Js.same rfl) ((Ext.refl m).lay x) (fun p hp=>zbo m x hp) (by rw[zae]; omega) fun h=>h.step rfl ((Ext.refl m).lay x)
theorem Wk.here (h:Wk j m m'){q:Nat}(hq:m.ins.length≤q):Wk j m (m'.here q):=by
 refine⟨h.js.then rfl,h.fz.here hq,by rw[zaf]; exact h.le,fun h1 h2 h3=>(h.lb h1 h2 h3).step rfl ((Ext.refl _).here q),h.ws⟩
theorem Wk.fresh (m:Mk):Wk j m m.fresh:=Wk.of (Js.same rfl) (Ext.refl m).fresh (fun p _=>rfl) (Nat.le_refl _) fun h=>h.step rfl (Ext.refl m).fresh
theorem Wk.setW (m:Mk)(f:Wt→Wt):Wk j m (m.setW j f):=by
 refine⟨Js.same (zfn ..),fun p _=>rfl,Nat.le_refl _,fun h1 _ h x hx=>?_,fun i hi w hw=>?_⟩
 ·obtain⟨w,hw,hl⟩:=h x hx
  exact⟨w,by rw[zvs (h1 x hx)]; exact hw,hl⟩
 ·rw[zvs hi]; exact hw
theorem Wk.hereAll:∀(l:List Nat) {m':Mk},Wk j m m'→(∀ p∈l,m.ins.length≤p)→Wk j m (hereAll m' l)
 | [],_,h,_=>h
 |p::l,m',h,hl=>Wk.hereAll l (h.here (hl p (List.mem_cons_self ..))) fun q hq=>hl q (List.mem_cons_of_mem _ hq)
theorem Wk.again (h:Wk j m m'){l:List Nat}(hl:∀ p∈l,m.ins.length≤p):Wk j m (again j m' l):=by
 unfold Gf.again
 exact((Wk.hereAll l ((h.trans (Wk.setW m' _)).trans (Wk.lay _ _)) hl).trans (Wk.lay _ _)).trans (Wk.lay _ _)
theorem Wk.waitIn (m:Mk):Wk j m (waitIn j m):=(Wk.setW m _).trans (Wk.fresh _)
theorem zpr (sh:Bool)(j:Nat)(t:T)(m:Mk):Wk j m (wait sh j t m):=by
 have hw:=Wk.waitIn (j:=j) m
 have l0:(Gf.waitIn j m).ins.length=m.ins.length:=rfl
 by_cases h29:t.op=29
 ·rw[zeu h29]
  refine Wk.again (((hw.trans (Wk.setW _ _)).trans (Wk.lay _ _)).trans (Wk.con ..)) fun p hp=>?_
  rw[List.mem_singleton] at hp; omega
 by_cases h30:t.op=30
 ·rw[zdn h30]
  have h1:=((hw.trans (Wk.setW _ fun w=>{ w with day:=t.n+1 })).trans (Wk.lay _ (ix 21 0 0 t.n)))
  have h2:=h1.trans (Wk.obs sh 200 (t.kid 0) _)
  have hu:=zmx sh 200 (t.kid 0) (((Gf.waitIn j m).setW j fun w=>{ w with day:=t.n+1 }).lay (ix 21 0 0 t.n)) []
  have l1:=h1.le
  have l2:=h2.le
  refine Wk.again (Wk.here ((h2.trans (Wk.lay _ _)).trans (Wk.con ..)) (Nat.le_of_eq l0.symm)) fun p hp=>?_
  rcases List.mem_append.1 hp with h|h
  ·rcases hu p h with h3|h3
   ·cases h3
   ·omega
  ·rw[List.mem_singleton] at h; omega
 by_cases h26:t.op=26
 ·rw[zdf h26]
  refine Wk.again (((hw.trans (Wk.obs ..)).trans (Wk.lay _ _)).trans (Wk.con ..)) fun p hp=>?_
  rcases zmx sh 200 (t.kid 0) (Gf.waitIn j m) [] p hp with h3|h3
  ·cases h3
  ·omega
 by_cases h28:t.op=28
 ·rw[zet h28]
  refine Wk.again ((hw.trans (Wk.obs ..)).trans (Wk.either ..)) fun p hp=>?_
  rcases zmx sh 200 (t.kid 0) (Gf.waitIn j m) [] p hp with h3|h3
  ·cases h3
  ·omega
 by_cases h31:t.op=31
 ·rw[zdo h31]
  obtain⟨A,C,B,D,hA,hC,hB,hD,e⟩:=zfk sh j t (Gf.waitIn j m)
  rw[e]
  have wA:Wk j m A:=by rw[hA]; exact((hw.trans (Wk.lay _ _)).trans (Wk.lay _ _)).trans (Wk.lay _ _)
  have wC:Wk j m C:=by rw[hC]; exact(wA.trans (Wk.lay _ _)).trans (Wk.con ..)
  have wB:Wk j m B:=by rw[hB]; exact((wC.trans (Wk.lay _ _)).here (Nat.le_of_eq l0.symm)).here wA.le
  have wD:Wk j m D:=by rw[hD]; exact(wB.trans (Wk.fresh _)).trans (Wk.con ..)
  exact(wD.trans (Wk.lay _ _)).trans (Wk.setW _ _)
 ·rw[zjb h29 h30 h26 h28 h31]
  exact hw.again fun p hp=>by cases hp
end
/-! A wait's entry. -/
def WAt (m:Mk)(j:Nat)(e:Int)(lb:ByteArray):Prop:=∃ w,m.ws[j]? = some w∧w.entry=e∧w.label=lb
theorem WAt.ext {m m':Mk}{j:Nat}{e:Int}{lb:ByteArray}(h:WAt m j e lb)(x:Ext m m'):WAt m' j e lb:=by
 obtain⟨w,h1,h2⟩:=h
 exact⟨w,zrx x h1,h2⟩
theorem WAt.day {m:Mk}{j:Nat}{e:Int}{lb:ByteArray}(h:WAt m j e lb)(g:Wt→Int):WAt (m.setW j fun w=>{ w with day:=g w }) j e lb:=by
 obtain⟨w,h1,h2,h3⟩:=h
 exact⟨{ w with day:=g w },zlt h1,h2,h3⟩
theorem WAt.in' {m:Mk}{j:Nat}{w:Wt}(h:m.ws[j]? = some w)(hl:w.label=txt0):WAt (waitIn j m) j m.ins.length txt0:=
 ⟨{ w with entry:=m.ins.length },zlt h,rfl,hl⟩
theorem WAt.again {m:Mk}{j:Nat}{e:Int}{lb:ByteArray}{l:List Nat}(h:WAt m j e lb):WAt (again j m l) j e lb:=by
 obtain⟨w,h1,h2⟩:=h.day fun w=>zck w.day
 refine⟨w,?_,h2⟩
 unfold Gf.again
 show(hereAll _ l).ws[j]? = _
 rw[(zox l _).1]
 exact h1
end Sm
end
section
open Go.RowKit
namespace Sm
open Co Gen Dn Gf
def zqk (c:Cd)(E:Vm.Env)(J:Nat→T→Nat→Nat→Prop)(j:Nat)(t:T)(p1 p2:Nat):Prop:=
 ∃ w,c.waits[j]? = some w∧(t.op≠31→w.label=txt0)∧(t.op=31→w.label=t.s∧zdy c E J w.first (fun f=>if t.n<E.day then den E (t.kid 1) f else den E (t.kid 0) f) p1 p2∧zdy c E J w.second (den E (t.kid 1)) p1 p2)
section
variable {c:Cd}{E:Vm.Env}{J:Nat→T→Nat→Nat→Prop}{sh:Bool}{j:Nat}{N:List (Nat × T)}{q1 q2 p1 p2:Nat}
theorem qdi {W:Mk}{e:Int}{lb:ByteArray}(h:WAt W j e lb)(hc:c.waits[j]? = W.ws[j]?):zbt c (j:Int)=e∧∃ w,c.waits[j]? = some w∧w.label=lb:=by
 obtain⟨w,h1,h2,h3⟩:=h
 rw[h1] at hc
 refine⟨?_,w,hc,h3⟩
 unfold zbt
 rw[Int.toNat_natCast,hc]
 exact h2
theorem qbi (hR:Gen.right c=true)(he:EnvOk E){t:T}{m W:Mk}{w:Wt}(hW:wait sh j t m=W)(hx:t.letter=99)(hw:zax t=true)(hd:t.depth≤200)(hlb:m.ws[j]? = some w)(hlt:w.label=txt0)(hc:zee c W)(hcw:c.waits[j]? = W.ws[j]?)
  (hN:W.jobs=m.jobs++N) (hq:Cost (JobQ c E J) N q1 q2) (hJ:J j t p1 p2) (h1:W.ins.length+q1≤p1+m.ins.length) (h2:q2≤p2):zdy c E J (zbt c (j:Int)) (den E t) p1 p2∧zqk c E J j t p1 p2:=by
 have hin:=WAt.in' hlb hlt
 obtain⟨op,n,s,ks⟩:=t
 have hkd:∀ k∈ks,k.depth≤200:=fun k hk=>by
  have h1:=zcy hk
  rw[T.depth] at hd
  omega
 have fin:∀ {e:Int},WAt W j m.ins.length txt0→zdy c E J m.ins.length (den E (.mk op n s ks)) p1 p2→(T.mk op n s ks).op≠31→zdy c E J (zbt c (j:Int)) (den E (.mk op n s ks)) p1 p2∧zqk c E J j (.mk op n s ks) p1 p2:=fun h3 h4 h5=>by
  obtain⟨e1,w',e2,e3⟩:=qdi h3 hcw
  rw[e1]
  exact⟨h4,w',e2,fun _=>e3,fun h=>absurd h h5⟩
 rcases zbm hx with(⟨rfl,rfl⟩|⟨rfl,rfl⟩)|⟨hop,a,rfl,ha⟩|⟨rfl,o,a,rfl,ho,ha⟩|⟨hop,a,b,rfl,ha,hb⟩|⟨rfl,o,a,b,rfl,ho,ha,hb⟩|⟨rfl,o,a,rfl,ho,ha⟩
 ·rw[zbb (.inl rfl)] at hw; cases hw
 ·rw[zbb (.inr (.inl rfl))] at hw; cases hw
 ·rcases hop with rfl|rfl
  ·rw[zbb (.inr (.inr (.inl rfl)))] at hw; cases hw
  ·rw[zeu rfl,kid0] at hW
   obtain⟨X,hX⟩:∃ X,con sh 200 a (((waitIn j m).setW j fun w=>{ w with day:=(T.mk 29 n s [a]).n }).lay (ix 22 0 0 (T.mk 29 n s [a]).n))=X:=⟨_,rfl⟩
   rw[hX] at hW
   subst hW
   refine fin (e:=0) ?_ ?_ (show(29:Int)≠31 by decide)
   ·refine WAt.again ?_
    rw[←hX]
    exact((hin.day _).ext ((Ext.refl _).lay _)).ext (zgg ..)
   ·have hl:=zek j X [(waitIn j m).ins.length]
    exact qga (m:=(waitIn j m).setW j fun w=>{ w with day:=(T.mk 29 n s [a]).n }) hR he ha (hkd a (by simp)) rfl rfl hX hc (by rw[←zjy (zdk j [(waitIn j m).ins.length] X),hN]; rfl) hq hJ (by show _≤p1+m.ins.length; omega) h2
 ·rw[zdf rfl,kid0,kid1] at hW
  obtain⟨O,hO⟩:∃ O,obs sh 200 o (waitIn j m) []=O:=⟨_,rfl⟩
  rw[hO] at hW
  obtain⟨X,hX⟩:∃ X,con sh 200 a (O.2.1.lay (ix 23 0 O.1 0))=X:=⟨_,rfl⟩
  rw[hX] at hW
  subst hW
  refine fin (e:=0) ?_ ?_ (show(26:Int)≠31 by decide)
  ·refine WAt.again ?_
   rw[←hX,←hO]
   exact((hin.ext (zfm sh 200 o _ _)).ext ((Ext.refl _).lay _)).ext (zgg ..)
  ·have hl:=zek j X O.2.2
   exact zyf (m:=waitIn j m) hR he ho (hkd o (by simp)) ha (hkd a (by simp)) rfl rfl hO hX hc (by rw[←zjy (zdk j O.2.2 X),hN]; rfl) hq hJ (by show _≤p1+m.ins.length; omega) h2
 ·rcases hop with rfl|rfl
  ·rw[zbb (.inr (.inr (.inr rfl)))] at hw; cases hw
  ·rw[zdo rfl] at hW
   obtain⟨A,C,B,D,hA,hC,hB,hD,e⟩:=zfk sh j (.mk 31 n s [a,b]) (waitIn j m)
   rw[e] at hW
   rw[kid0] at hC
   rw[kid1] at hD
   have xA:Ext (waitIn j m) A:=by rw[hA]; exact(((Ext.refl _).lay _).lay _).fin
   have xC:Ext A C:=by rw[hC]; exact((Ext.refl _).lay _).trans (zgg ..)
   have xB:Ext C B:=by rw[hB]; exact((Ext.refl _).fin.here _).here _
   have xD:Ext B D:=by rw[hD]; exact(Ext.refl _).fresh.trans (zgg ..)
   obtain⟨w',hw', -, -⟩:=((((hin.ext xA).ext xC).ext xB).ext xD)
   have hWj:W.ws[j]? = some ⟨(waitIn j m).ins.length,zck (n+1),s,A.ins.length,B.ins.length⟩:=by
    rw[←hW]
    exact zlt (m:=D.fin) hw'
   have hcj:=hcw.trans hWj
   have hjw:W.jobs=D.jobs:=by rw[←hW]; rfl
   have:=qcn (d:=200) (J:=J) (sh:=sh) (m:=waitIn j m) hR he ha (hkd a (by simp)) hb (hkd b (by simp)) rfl rfl hA hC hB hD (by rw[←hW]; rfl) hc (by rw[←hjw,hN]; rfl) hq hJ (by show _≤p1+m.ins.length; omega) h2
   obtain⟨g1,g2,g3⟩:=this
   refine⟨?_,_,hcj,fun h=>absurd rfl h,fun _=>⟨rfl,g2,g3⟩⟩
   unfold zbt
   rw[Int.toNat_natCast,hcj]
   exact g1
 ·rw[zet rfl,kid0] at hW
  obtain⟨O,hO⟩:∃ O,obs sh 200 o (waitIn j m) []=O:=⟨_,rfl⟩
  rw[hO] at hW
  obtain⟨X,hX⟩:∃ X,either (con sh 200) O.1 (.mk 28 n s [o,a,b]) O.2.1=X:=⟨_,rfl⟩
  rw[hX] at hW
  subst hW
  refine fin (e:=0) ?_ ?_ (show(28:Int)≠31 by decide)
  ·refine WAt.again ?_
   rw[←hX,←hO]
   exact(hin.ext (zfm sh 200 o _ _)).ext (zpd _ _ _ (zgg sh 200))
  ·have hl:=zek j X O.2.2
   exact qfb (m:=waitIn j m) hR he ho (hkd o (by simp)) ha (hkd a (by simp)) hb (hkd b (by simp)) rfl rfl hO hX hc (by rw[←zjy (zdk j O.2.2 X),hN]; rfl) hq hJ (by show _≤p1+m.ins.length; omega) h2
 ·rw[zdn rfl,kid0,kid1] at hW
  obtain⟨O,hO⟩:∃ O,obs sh 200 o (((waitIn j m).setW j fun w=>{ w with day:=(T.mk 30 n s [o,a]).n+1 }).lay (ix 21 0 0 (T.mk 30 n s [o,a]).n)) []=O:=⟨_,rfl⟩
  rw[hO] at hW
  obtain⟨X,hX⟩:∃ X,con sh 200 a (O.2.1.lay (ix 19 0 O.1 0))=X:=⟨_,rfl⟩
  rw[hX] at hW
  obtain⟨X',hX'⟩:∃ X',X.here (waitIn j m).ins.length=X':=⟨_,rfl⟩
  rw[hX'] at hW
  subst hW
  have lX:X'.ins.length=X.ins.length:=by rw[←hX',zaf]
  refine fin (e:=0) ?_ ?_ (show(30:Int)≠31 by decide)
  ·refine WAt.again ?_
   rw[←hX',←hX,←hO]
   exact(((((hin.day _).ext ((Ext.refl _).lay _)).ext (zfm sh 200 o _ _)).ext ((Ext.refl _).lay _)).ext (zgg ..)).ext ((Ext.refl _).here _)
  ·have hl:=zek j X' (O.2.2++[O.2.1.ins.length])
   exact qbe (m:=(waitIn j m).setW j fun w=>{ w with day:=(T.mk 30 n s [o,a]).n+1 }) hR he ho (hkd o (by simp)) ha (hkd a (by simp)) rfl rfl hO hX hX' hc (by
    have e1:X'.jobs=X.jobs:=by rw[←hX']; rfl
    rw[←e1,←zjy (zdk j (O.2.2++[O.2.1.ins.length]) X'),hN]; rfl) hq hJ (by show _≤p1+m.ins.length; omega) h2
end
end Sm
end
section
open Go.RowKit
namespace Sm
open Co Gen Dn Gf
inductive Jb (sh:Bool)(M:Mk):Nat→T→Nat→Nat→Prop
 |mk {m:Mk} {j:Nat} {t:T} {r N:List (Nat × T)} {q1 q2:Nat} (k:Nat):Gf.St k m→m.jobs=(j,t)::r→Lb m→zee M.code (wait sh j t (zao m r))→M.ws[j]? = (wait sh j t (zao m r)).ws[j]? → (wait sh j t (zao m r)).jobs=r++N →
   Cost (Jb sh M) N q1 q2→Jb sh M j t ((wait sh j t (zao m r)).ins.length - m.ins.length+q1) (1+q2)
theorem Jb.one {sh:Bool}{M:Mk}{j:Nat}{t:T}{p1 p2:Nat}(h:Jb sh M j t p1 p2):1≤p2:=by
 cases h
 omega
theorem Jb.fact {sh:Bool}{M:Mk}{j:Nat}{t:T}{p1 p2:Nat}(h:Jb sh M j t p1 p2):t.letter=99∧zax t=true∧j<M.ws.length:=by
 cases h with
 | @mk m _ _ r N q1 q2 k hs hj hl hb hw hN hc=>
  obtain⟨h1,h2,h3,h4⟩:=hs.job hj
  refine⟨h2,h3,?_⟩
  obtain⟨w,hw', -⟩:=hl (j,t) (by rw[hj]; exact List.mem_cons_self ..)
  obtain⟨N',e1,e2,e3⟩:=(zpr sh j t (zao m r)).js
  have hl:=(List.getElem?_eq_some_iff.1 hw').1
  have hlW:j<(wait sh j t (zao m r)).ws.length:=by rw[e3]; exact Nat.lt_of_lt_of_le hl (Nat.le_add_right _ _)
  rw[List.getElem?_eq_getElem hlW] at hw
  exact(List.getElem?_eq_some_iff.1 hw).1
theorem qew {N:List (Nat × T)}{x:Nat × T}(h:x∈N):x.2.size≤tot N:=by
 induction N with
 |nil=>cases h
 |cons y r ih=>
  rw[tot]
  rcases List.mem_cons.1 h with h1|h1
  ·subst h1; omega
  ·have:=ih h1; omega
theorem zwb {sh:Bool}{M:Mk}{E:Vm.Env}(hR:Gen.right M.code=true)(he:EnvOk E):∀ n j t p1 p2,t.size≤n→Jb sh M j t p1 p2→JobQ M.code E (Jb sh M) j t p1 p2∧zqk M.code E (Jb sh M) j t p1 p2:=by
 intro n
 induction n with
 |zero=>intro j t p1 p2 h; have:=size_pos t; omega
 |succ n ih=>
  intro j t p1 p2 hn h
  have hJ:=h
  cases h with
  | @mk m _ _ r N q1 q2 k hs hj hl hb hw hN hc=>
   obtain⟨h1,h2,h3,h4⟩:=hs.job hj
   obtain⟨w,hw',hwl⟩:=hl (j,t) (by rw[hj]; exact List.mem_cons_self ..)
   have ht:=zsf sh j t (zao m r) h2 h3
   have e1:(jw (zao m r)).1=r:=rfl
   have e2:(jw (wait sh j t (zao m r))).1=r++N:=hN
   rw[e1,e2,zol] at ht
   have hc':Cost (JobQ M.code E (Jb sh M)) N q1 q2:=hc.mono fun x hx p1 p2 hQ=>(ih x.1 x.2 p1 p2 (by have:=qew hx; omega) hQ).1
   have wk:=(zpr sh j t (zao m r)).le
   have lm:(zao m r).ins.length=m.ins.length:=rfl
   have:=qbi (sh:=sh) (j:=j) (t:=t) (W:=wait sh j t (zao m r)) hR he (m:=zao m r) (w:=w) (c:=M.code) rfl h2 h3 h4 hw' hwl hb hw hN hc' hJ (by omega) (by omega)
   exact⟨⟨hJ,this.1⟩,this.2⟩
theorem Cost.join {Q:Nat→T→Nat→Nat→Prop}{N:List (Nat × T)}{j:Nat}{t:T}{p1 p2 q1 q2:Nat}(h:Q j t p1 p2)(k:Cost Q N q1 q2):Cost Q ((j,t)::N) (p1+q1) (p2+q2):=.cons h k
theorem qcd (sh:Bool):∀ n m k,Gf.St k m→tot m.jobs≤n→Lb m→(m.jobs.map Prod.fst).Nodup→∃ q1 q2,Cost (Jb sh (run sh n m)) m.jobs q1 q2∧m.ins.length+q1=(run sh n m).ins.length∧q2+m.ws.length=(run sh n m).ws.length+m.jobs.length ∧
  zee (run sh n m).code m∧(∀ i,(∀ x∈m.jobs,x.1≠i)→∀ w,m.ws[i]? = some w→(run sh n m).ws[i]? = some w):=by
 intro n
 induction n with
 |zero=>
  intro m k hs hn hl hd
  have e:m.jobs=[]:=by
   cases hj:m.jobs with
   |nil=>rfl
   |cons x r=>rw[hj,tot] at hn; have:=size_pos x.2; omega
  rw[zjp e,e]
  exact⟨0,0,.nil,rfl,by simp,fun p _=>rfl,fun i _ w h=>h⟩
 |succ n ih=>
  intro m k hs hn hl hd
  cases hj:m.jobs with
  |nil=>
   rw[zjp hj]
   exact⟨0,0,.nil,rfl,by simp,fun p _=>rfl,fun i _ w h=>h⟩
  |cons x r=>
   obtain⟨j,t⟩:=x
   rw[znt hj]
   have ht:=hs.tot hj sh
   obtain⟨h1,h2,h3,h4⟩:=hs.job hj
   have wk:=zpr sh j t (zao m r)
   obtain⟨N,e1,e2,e3⟩:=wk.js
   have e1:(wait sh j t (zao m r)).jobs=r++N:=e1
   have lm:(zao m r).ins.length=m.ins.length:=rfl
   have lw:(zao m r).ws.length=m.ws.length:=rfl
   rw[lw] at e2 e3
   rw[hj,List.map_cons,List.nodup_cons] at hd
   have hr:∀ x∈r,x.1≠j:=fun x hx e=>hd.1 (by have:=List.mem_map_of_mem (f:=Prod.fst) hx; rw[e] at this; exact this)
   have hlt:∀ x∈r,x.1<m.ws.length:=fun x hx=>(hs.jobs x (by show x∈m.jobs; rw[hj]; exact List.mem_cons_of_mem _ hx)).1
   have hge:∀ x∈N,m.ws.length≤x.1:=fun x hx=>by
    have:x.1∈N.map Prod.fst:=List.mem_map_of_mem hx
    rw[e2,List.mem_range'_1] at this
    omega
   have hlb:Lb (wait sh j t (zao m r)):=wk.lb hr (by rw[lw]; exact h1) fun x hx=>hl x (by rw[hj]; exact List.mem_cons_of_mem _ hx)
   have hnd:((wait sh j t (zao m r)).jobs.map Prod.fst).Nodup:=by
    rw[e1,List.map_append,List.nodup_append]
    refine⟨hd.2,by rw[e2]; exact List.nodup_range',fun a ha b hb hab=>?_⟩
    obtain⟨x,hx,rfl⟩:=List.mem_map.1 ha
    obtain⟨y,hy,rfl⟩:=List.mem_map.1 hb
    have:=hlt x hx
    have:=hge y hy
    omega
   obtain⟨a1,a2,g1,g2,g3,g4,g5⟩:=ih _ k (hs.next hj sh) (by omega) hlb hnd
   generalize hM:run sh n (wait sh j t (zao m r))=M at *
   rw[e1] at g1 g3
   obtain⟨x1,x2,y1,y2,c1,c2,rfl,rfl⟩:=g1.split
   have hle:=wk.le
   have hjn:∀ x∈(wait sh j t (zao m r)).jobs,x.1≠j:=fun x hx=>by
    rw[e1] at hx
    rcases List.mem_append.1 hx with h|h
    ·exact hr x h
    ·have:=hge x h; omega
   have hwj:M.ws[j]? = (wait sh j t (zao m r)).ws[j]?:=by
    have hl:j<(wait sh j t (zao m r)).ws.length:=by omega
    rw[List.getElem?_eq_getElem hl]
    exact g5 j hjn _ (List.getElem?_eq_getElem hl)
   refine⟨_,_,Cost.join (Jb.mk k hs hj hl g4 hwj e1 c2) c1,by omega,?_,fun p hp=>?_,fun i hi w hw=>?_⟩
   ·rw[List.length_append] at g3
    rw[List.length_cons]
    omega
   ·rw[g4 p (by omega)]; exact wk.fz p hp
   ·have hij:i≠j:=Ne.symm (hi (j,t) (List.mem_cons_self ..))
    refine g5 i (fun x hx=>?_) w (wk.ws i hij w hw)
    rw[e1] at hx
    rcases List.mem_append.1 hx with h|h
    ·exact hi x (List.mem_cons_of_mem _ h)
    ·have:=hge x h
     have:=(List.getElem?_eq_some_iff.1 hw).1
     omega
theorem qar {sh:Bool}{t:T}{E:Vm.Env}(hR:Gen.right (make sh t).code=true)(he:EnvOk E)(hx:t.letter=99)(hd:t.depth≤200):zdy (make sh t).code E (Jb sh (make sh t)) 0 (den E t) (make sh t).ins.length (make sh t).ws.length:=by
 obtain⟨hs,ht⟩:=zns sh t hx hd
 obtain⟨N,e1,e2,e3⟩:=zfu sh 200 t mk0
 have e1:(con sh 200 t mk0).fin.jobs=N:=e1
 have hlb:Lb (con sh 200 t mk0).fin:=(zpk sh 200 t mk0 fun x hx=>by cases hx).step rfl (Ext.refl _).fin
 obtain⟨q1,q2,g1,g2,g3,g4, -⟩:=qcd sh t.size _ _ hs ht hlb (by rw[e1,e2]; exact List.nodup_range')
 have hM:run sh t.size (con sh 200 t mk0).fin=make sh t:=rfl
 rw[hM] at g1 g2 g3 g4
 generalize make sh t=M at *
 have hc:Cost (JobQ M.code E (Jb sh M)) N q1 q2:=by
  rw[e1] at g1
  exact g1.mono fun x _ p1 p2 hQ=>(zwb hR he x.2.size x.1 x.2 p1 p2 (Nat.le_refl _) hQ).1
 have lf:(con sh 200 t mk0).fin.ins.length=(con sh 200 t mk0).ins.length+1:=zae _ _
 have hag:Ag M.code mk0.ins.length (con sh 200 t mk0):=fun p x _ hx=>by
  have:=(List.getElem?_eq_some_iff.1 hx).1
  exact⟨x.to,by rw[g4 p (by omega)]; show((con sh 200 t mk0).lay _).ins[p]? = _; rw[zbo _ _ this,hx]; rfl,fun _=>rfl⟩
 have hend:M.code.ins[(con sh 200 t mk0).ins.length]? = some (ix 30 0 0 0):=by rw[g4 _ (by omega)]; exact zbp _ _
 intro f
 obtain⟨k,hs',f',r',a1,a2,u1,u2,u3,u4,u5, -, -, -⟩:=zha (J:=Jb sh M) hR he 200 t mk0 N q1 q2 No Vm.zeros f hx hd (zld rfl rfl) hag e1 hc
 have g:=u1.ends (Ends.stop (E:=E) (f:=f') (r:=r') hend (show(30:Int)=30 from rfl))
 rw[List.append_nil,List.append_nil] at g
 have l0:mk0.ins.length=0:=rfl
 have w0:mk0.ws.length=0:=rfl
 have w1:(con sh 200 t mk0).fin.ws.length=N.length:=by rw[show(con sh 200 t mk0).fin.ws.length=(con sh 200 t mk0).ws.length from rfl,e3,w0,Nat.zero_add]
 rw[e1] at g3
 exact⟨_,hs',a1,a2,g,u2,by omega,by omega,by omega⟩
theorem Match.length {J:Nat→T→Nat→Nat→Prop}{hs:List (Int × Int)}{ls:List (T × Int)}{p1 p2:Nat}(hJ:∀ j t p1 p2,J j t p1 p2→1≤p2)(h:Match J hs ls p1 p2):hs.length≤p2:=by
 induction h with
 |nil=>exact Nat.le_refl _
 |cons h1 h2 ih=>have:=hJ _ _ _ _ h1; rw[List.length_cons]; omega
theorem qfi {c:Cd}{E:Vm.Env}{J:Nat→T→Nat→Nat→Prop}{entry:Int→Int}{res:T→Int→R}(hJ:∀ j t p1 p2,J j t p1 p2→1≤p2∧zdy c E J (entry j) (res t) p1 p2){l:List (Int × Int)}{ls:List (T × Int)}{p1 p2:Nat}(h:Match J l ls p1 p2):
  ∃ k hs a1 a2,(∀ H O s,s+p1≤65536→H.length+p2≤250→Vm.all c E entry l ⟨H,O,s,false⟩=⟨H++hs,O++ls.flatMap (fun x=>(res x.1 x.2).2),s+k,false⟩)∧Match J hs (ls.flatMap fun x=>(res x.1 x.2).1) a1 a2∧k≤p1∧a1≤p1∧a2≤p2:=by
 induction h with
 |nil=>exact⟨0,[],0,0,fun H O s _ _=>by simp[Vm.all],.nil,Nat.le_refl _,Nat.le_refl _,Nat.le_refl _⟩
 | @cons j t f p1 p2 q1 q2 hs ls h1 h2 ih=>
  obtain⟨k,hs',a1,a2,g1,g2,g3,g4,g5⟩:=ih
  obtain⟨k',hs'',b1,b2,u1,u2,u3,u4,u5⟩:=(hJ _ _ _ _ h1).2 f
  have hl:=u2.length fun j t p1 p2 h=>(hJ j t p1 p2 h).1
  refine⟨k'+k,hs''++hs',_,_,fun H O s hs1 hs2=>?_,u2.app g2,by omega,by omega,by omega⟩
  show Vm.all c E entry hs (Vm.run c E (entry j) f Vm.zeros ⟨H,O,s,false⟩)=_
  rw[u1 H O s (by omega) (by omega),g1 _ _ _ (by omega) (by rw[List.length_append]; omega)]
  simp[Nat.add_assoc]
end Sm
end
section
open Go.RowKit
namespace Sm
open Co Gen Dn Gf
theorem qer (x y d:Nat):Num.scl x y d≤1000000000000000:=by unfold Num.scl; split<;>omega
theorem qep (b:Bool)(n:Nat)(h:n≤1000000000000000):Num.clamp (Num.sgn b n)=Num.sgn b n:=by unfold Num.sgn; split<;>exact Num.clamp_in (by omega) (by omega)
theorem qfq (a b:Int):Num.clamp (Num.mul a b)=Num.mul a b:=qep _ _ (qer _ _ _)
theorem qfp (a:Int):Num.clamp (Num.neg a)=Num.neg a:=by unfold Num.neg; rw[Num.clamp_neg,Num.clamp_clamp]
theorem qab (F:List Fd.Feed)(day:Int):EnvOk (Vm.env F day) where
 move a b:=by show Vm.rk 18 a b=a; unfold Vm.rk; simp
 neg a b c:=by show Vm.rk 4 a b=Vm.rk 4 a c; unfold Vm.rk; rw[if_pos rfl,if_pos rfl]
 not a b c:=by show Vm.rk 12 a b=Vm.rk 12 a c; unfold Vm.rk; rw[if_neg (show ¬(12:Int)=4 by decide),if_pos rfl,if_neg (show ¬(12:Int)=4 by decide),if_pos rfl]
theorem qag (F:List Fd.Feed)(day:Int)(t:T):t.letter=99→∀ f,Num.clamp f=f→∀ x∈(den (Vm.env F day) t f).1,Num.clamp x.2=x.2:=by
 induction t using T.ind with|h op n s ks ih=>?_
 intro hx f hf
 have hw:∀ t,∀ x∈(zdg t f).1,Num.clamp x.2=x.2:=fun t x hx=>by
  have:x=(t,f):=by simpa [zdg] using hx
  subst this
  exact hf
 have hn:∀ x∈(zgu:R).1,Num.clamp x.2=x.2:=fun x hx=>by cases hx
 rcases zbm hx with(⟨rfl,rfl⟩|⟨rfl,rfl⟩)|⟨h1,a,rfl,ha⟩|⟨rfl,o,a,rfl,ho,ha⟩|⟨h1,a,b,rfl,ha,hb⟩|⟨rfl,o,a,b,rfl,ho,ha,hb⟩|⟨rfl,o,a,rfl,ho,ha⟩
 ·rw[ztt]; exact hn
 ·rw[zts]; intro x hx; cases hx
 ·rcases h1 with rfl|rfl
  ·rw[ztr]; exact ih a (by simp) ha _ (qfp f)
  ·rw[zph]; split
   ·exact hw _
   ·exact ih a (by simp) ha _ hf
 ·rw[zmm]
  cases bval (Vm.env F day) o with
  |none=>exact hw _
  |some v=>exact ih a (by simp) ha _ (qfq f v)
 ·rcases h1 with rfl|rfl
  ·rw[ztq]
   intro x hx
   rcases List.mem_append.1 (show x∈(den (Vm.env F day) a f).1++(den (Vm.env F day) b (Num.clamp f)).1 from hx) with h|h
   ·exact ih a (by simp) ha _ hf x h
   ·exact ih b (by simp) hb _ (Num.clamp_clamp f) x h
  ·rw[zpg]; split
   ·exact ih b (by simp) hb _ hf
   ·exact hw _
 ·rw[zkc]
  cases bval (Vm.env F day) o with
  |none=>exact hw _
  |some v=>
   simp only
   split
   ·exact ih b (by simp) hb _ hf
   ·exact ih a (by simp) ha _ hf
 ·rw[zkb]; split
  ·exact hn
  ·cases bval (Vm.env F day) o with
   |none=>exact hw _
   |some v=>
    simp only
    split
    ·exact hw _
    ·exact ih a (by simp) ha _ hf
end Sm
end
end Go.Proofs.YtanlmbbalamgkaaGreatDoor
