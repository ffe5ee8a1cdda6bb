/- Proved: lemmas and contracts of the functions that the law reaches, part 25 of 35: SmObs3, GfRt, GfRt2, SmObs4, SmCon, GfRight, SmCon2, SmWait, SmWait2, GfRight2, SmJobs, SmSem, SmAll. Conditions: as each states. -/
import Derived.Test.YtanlmbbalamgkaaGreatDoorVmp24
namespace Go.Proofs.YtanlmbbalamgkaaGreatDoor
set_option linter.unusedVariables false
set_option linter.unusedSimpArgs false
section
open Go.RowKit
namespace Sm
open Co Gen Dn Gf
theorem Ag.same {c:Cd}{n:Nat}{m m':Mk}(h:Ag c n m')(e:m'.ins=m.ins):Ag c n m:=by unfold Ag at *; rw[←e]; exact h
theorem wl (sh:Bool)(d:Nat)(t:T)(m:Mk)(u:List Nat)(out:Int):Fz m.ins.length m.ins (aj sh out (obs sh d t m u)).1:=tx sh out (zjb sh d t m u _ _ (fun p _=>rfl) (Nat.le_refl _)) (bm sh d t m u)
theorem rf (sh:Bool)(d:Nat)(t:T)(m:Mk)(u:List Nat)(out:Int):m.ins.length+1≤(aj sh out (obs sh d t m u)).1.ins.length:=by
 have:=ej sh out (obs sh d t m u)
 have:=bm sh d t m u;omega
def zfk (c:Cd)(E:Vm.Env)(sh:Bool)(f:Int)(d:Nat):Prop:=∀(t:T) (m:Mk) (u:List Nat) (G:Int→Prop) (r:List Int),Obs t→t.depth≤d→Fine c E sh G m r→Ag c m.ins.length (obs sh d t m u).2.1→ObSem c E sh G m (obs sh d t m u) f r (aq E t)
section
variable {c:Cd}{E:Vm.Env}{sh:Bool}{G:Int→Prop}{m:Mk}{f:Int}{r:List Int}{u:List Nat}{d:Nat}
theorem qz (hR:Gen.right c=true)(he:EnvOk E)(IH:zfk c E sh f d){t:T}(ht:Obs t)(hd:t.depth≤d){out:Int}(hf:Fine c E sh G m r)(hG:∀ x,G x→x≠out)(h0:0≤out)(h1:out<m.next)(ha:Ag c m.ins.length (aj sh out (obs sh d t m u)).1):zwm c E sh G out m (aj sh out (obs sh d t m u)) f r (aq E t):=by
 have hl:=ej sh out (obs sh d t m u);refine zyp hR he (IH t m u G r ht hd hf ?_) hf hG h0 h1 ha (bm sh d t m u);refine ha.sub (Nat.le_refl _) fun p hp A0=>?_;show((Mk.lay _ _).free sh _).ins[p]? = _
 rw[iu,dx _ _ A0]
theorem zfw {t:T}(ht:Obs t)(hd:t.depth≤d){out:Int}(h1:out+1=m.next):m.next≤(aj sh out (obs sh d t m u)).1.next:=by
 rw[←h1];exact zhb out _ (by have:=jr sh d t m u ht hd; omega)
theorem zab {t:T}(ht:Obs t)(hd:t.depth≤d){out:Int}(h:out+1≤m.next)(hs:sh=true):m.next≤(aj sh out (obs sh d t m u)).1.next:=by
 subst hs;exact jr true d t m u ht hd
theorem qp {p:Nat}{L out:Int}(h:c.ins[p]? = some (gx (ix 19 0 out 0) L)):Steps c E p f r (if Vm.reg r out=0 then L else((p+1:Nat):Int)) f r 1:=Steps.one h zsf
theorem zfv {p:Nat}{L:Int}(h:c.ins[p]? = some (gx (ix 20 0 0 0) L)):Steps c E p f r L f r 1:=Steps.one h zza
theorem zxy (hR:Gen.right c=true)(he:EnvOk E)(IH:zfk c E sh f d){a b:T}{n:Int}{s:ByteArray}(ha:Obs a)(hb:Obs b)(da:a.depth≤d)(db:b.depth≤d)(hf:Fine c E sh G m r)
  (A0:Ag c m.ins.length (obs sh (d+1) (.mk 15 n s [a,b]) m u).2.1):ObSem c E sh G m (obs sh (d+1) (.mk 15 n s [a,b]) m u) f r (aq E (.mk 15 n s [a,b])):=by
 obtain⟨A,hA⟩:∃ A,aj sh m.next (obs sh d a m.reg u)=A:=⟨_,rfl⟩
 obtain⟨B,hB⟩:∃ B,A.1.lay (ix 19 0 m.next 0)=B:=⟨_,rfl⟩
 obtain⟨C,hC⟩:∃ C,aj sh m.next (obs sh d b B A.2)=C:=⟨_,rfl⟩
 obtain⟨F,hF⟩:∃ F,(C.1.back B.known).here A.1.ins.length=F:=⟨_,rfl⟩
 have e:obs sh (d+1) (.mk 15 n s [a,b]) m u=(m.next,F.free sh (m.next+1),C.2):=by
  rw[tv rfl,←hF,←hC,←hB,←hA]; rfl
 rw[e] at A0 ⊢;replace A0:Ag c m.ins.length F:=A0.same (iu _ _ _);have l0:m.reg.ins.length=m.ins.length:=rfl;have lA:m.reg.ins.length+1≤A.1.ins.length:=by rw[←hA]; exact rf ..
 have lB:B.ins.length=A.1.ins.length+1:=by rw[←hB,ah]
 have lC:B.ins.length+1≤C.1.ins.length:=by rw[←hC]; exact rf ..
 have lF:F.ins.length=C.1.ins.length:=by rw[←hF,ak,ao]
 have kC:Fz B.ins.length B.ins C.1:=by rw[←hC]; exact wl sh d b B A.2 m.next
 have iF:∀ p,p≠A.1.ins.length→F.ins[p]? = C.1.ins[p]?:=fun p hp=>by rw[←hF,gp _ (Ne.symm hp)]; rfl
 have iB:∀ p,p<A.1.ins.length→B.ins[p]? = A.1.ins[p]?:=fun p hp=>by rw[←hB,dx _ _ hp]
 have jF:F.ins[A.1.ins.length]? = some (gx (ix 19 0 m.next 0) C.1.ins.length):=by
  rw[←hF];refine mp (C.1.back B.known) ?_;show C.1.ins[_]? = _
  rw[kC _ (by omega),←hB]; exact dy _ _
 have gA:Ag c m.reg.ins.length A.1:=A0.sub (Nat.le_refl _) fun p hp A2=>by rw[iF p (by omega),kC p (by omega),iB p A2]
 have gC:Ag c B.ins.length C.1:=A0.sub (by omega) fun p hp A2=>iF p (by omega);have jump:=A0.get (by omega) jF (show(19:Int)≠2 by decide);have h0:=hf.nx;have A3:Fine c E sh G m.reg r:=⟨by show 0≤m.next+1; omega,fun x hx=>by have:=hf.g x hx; show 0≤x∧x<m.next+1; omega,hf.len,hf.kn⟩
 have A4:∀ x,G x→x≠m.next:=fun x hx=>by have:=hf.g x hx; omega
 have sA:=qz (u:=u) hR he IH ha da (out:=m.next) A3 A4 h0 (by show m.next<m.next+1; omega) (by rw[hA]; exact gA);rw[hA] at sA;have nA:m.reg.next≤A.1.next:=by rw[←hA]; exact zfw ha da rfl
 have nB:B.next=A.1.next:=by rw[←hB]; rfl
 have nF:F.next=C.1.next:=by rw[←hF]; rfl
 have kB:B.known=A.1.known:=by rw[←hB]; rfl
 have kF:F.known=A.1.known:=by rw[←hF]; exact kB
 have n1:m.reg.next=m.next+1:=rfl;have nC:sh=true→B.next≤C.1.next:=fun hs=>by rw[←hC]; exact zab hb db (by omega) hs
 have uC:∀ p∈A.2,p∈C.2:=fun p hp=>by rw[←hC]; exact zaa p hp
 rw[pm];cases hv:aq E a with
 |none=>
  rw[hv] at sA;exact(show Lost c E m A.1 A.2 f r from sA).more (by show _≤(F.free sh _).ins.length; rw[df]; omega) uC
 |some x=>
  rw[hv] at sA;obtain⟨k1,r1,s1,b1,g1,p1,v1,A1⟩:=sA;have hj:=qp (E:=E) (f:=f) (r:=r1) jump;have gn:∀ x,Gn G m.reg A.1 x→sh=true→Gn G m F x:=fun x hx hs=>by
   rcases hx with hx|hx
   ·exact .inl hx
   ·have:=nC hs; exact .inr (by omega)
  simp only;by_cases hx:x=0
  ·rw[if_pos hx];rw[v1,if_pos hx,←lF] at hj;refine close hf.nx (s1.trans hj) (by omega) g1 (fun x hx A5=>p1 x hx (by omega) (by omega)) (by rw[v1,hx]) (fun hs=>by have:=nC hs; omega) fun hs=>?_;rw[kF];exact(fun hs=>(A1.mono (G':=Gn G m F) fun x hx=>gn x hx hs) hs) hs
  ·rw[if_neg hx];rw[v1,if_neg hx,←lB] at hj;obtain⟨fB,xB⟩:=yk (b:=B) (y:=x) (k:=k1) A3 A4 rfl g1 A1 nA (by omega) kB;have sC:=qz (u:=A.2) hR he IH hb db (out:=m.next) fB xB h0 (by omega) (by rw[hC]; exact gC);rw[hC] at sC;cases hw:aq E b with
   |none=>
    rw[hw] at sC;exact((show Lost c E B C.1 C.2 f r1 from sC).ahead (m0:=m) (s1.trans hj) (by omega)).more (by show _≤(F.free sh _).ins.length; rw[df]; omega) fun p hp=>hp
   |some y=>
    rw[hw] at sC;obtain⟨k2,r2,s2,b2,g2,p2,v2,A6⟩:=sC;refine close hf.nx (by rw[lF]; exact(s1.trans hj).trans s2) (by omega) g2 (fun x hx A5=>by rw[p2 x hx (by omega) (by omega),p1 x hx (by omega) (by omega)]) v2 (fun hs=>by have:=nC hs; omega) fun hs=>?_;rw[kF];exact(fun hs=>((A1.regs (r':=r2) fun x hx=>p2 x (fB.g x hx).1 (fB.g x hx).2 (xB x hx)).mono (G':=Gn G m F) fun x hx=>gn x hx hs) hs) hs
theorem zyh (hR:Gen.right c=true)(he:EnvOk E)(IH:zfk c E sh f d){a b:T}{n:Int}{s:ByteArray}(ha:Obs a)(hb:Obs b)(da:a.depth≤d)(db:b.depth≤d)(hf:Fine c E sh G m r)
  (A0:Ag c m.ins.length (obs sh (d+1) (.mk 16 n s [a,b]) m u).2.1):ObSem c E sh G m (obs sh (d+1) (.mk 16 n s [a,b]) m u) f r (aq E (.mk 16 n s [a,b])):=by
 obtain⟨A,hA⟩:∃ A,aj sh m.next (obs sh d a m.reg u)=A:=⟨_,rfl⟩
 obtain⟨B,hB⟩:∃ B,((A.1.lay (ix 19 0 m.next 0)).lay (ix 20 0 0 0)).here A.1.ins.length=B:=⟨_,rfl⟩
 obtain⟨C,hC⟩:∃ C,aj sh m.next (obs sh d b B A.2)=C:=⟨_,rfl⟩
 obtain⟨F,hF⟩:∃ F,(C.1.back B.known).here (A.1.ins.length+1)=F:=⟨_,rfl⟩
 have e:obs sh (d+1) (.mk 16 n s [a,b]) m u=(m.next,F.free sh (m.next+1),C.2):=by
  rw[yd rfl,←hF,←hC,←hB,←hA]; rfl
 rw[e] at A0 ⊢;replace A0:Ag c m.ins.length F:=A0.same (iu _ _ _);have l0:m.reg.ins.length=m.ins.length:=rfl;have lA:m.reg.ins.length+1≤A.1.ins.length:=by rw[←hA]; exact rf ..
 have lA1:(A.1.lay (ix 19 0 m.next 0)).ins.length=A.1.ins.length+1:=ah _ _;have lB:B.ins.length=A.1.ins.length+2:=by rw[←hB,ak,ah,ah]
 have lC:B.ins.length+1≤C.1.ins.length:=by rw[←hC]; exact rf ..
 have lF:F.ins.length=C.1.ins.length:=by rw[←hF,ak,ao]
 have kC:Fz B.ins.length B.ins C.1:=by rw[←hC]; exact wl sh d b B A.2 m.next
 have iF:∀ p,p≠A.1.ins.length+1→F.ins[p]? = C.1.ins[p]?:=fun p hp=>by rw[←hF,gp _ (Ne.symm hp)]; rfl
 have iB:∀ p,p<A.1.ins.length→B.ins[p]? = A.1.ins[p]?:=fun p hp=>by rw[←hB,gp _ (by omega),dx _ _ (by omega),dx _ _ hp]
 have jF:F.ins[A.1.ins.length]? = some (gx (ix 19 0 m.next 0) B.ins.length):=by
  rw[iF _ (by omega),kC _ (by omega)]
  have:=mp ((A.1.lay (ix 19 0 m.next 0)).lay (ix 20 0 0 0)) (q:=A.1.ins.length) (x:=ix 19 0 m.next 0) (by rw[dx _ _ (by omega)]; exact dy _ _);rw[hB] at this;rw[this,ah,ah,lB]
 have jG:F.ins[A.1.ins.length+1]? = some (gx (ix 20 0 0 0) C.1.ins.length):=by
  rw[←hF];refine mp (C.1.back B.known) ?_;show C.1.ins[_]? = _
  rw[kC _ (by omega),←hB,gp _ (by omega)]
  have:=dy (A.1.lay (ix 19 0 m.next 0)) (ix 20 0 0 0);rw[lA1] at this;exact this
 have gA:Ag c m.reg.ins.length A.1:=A0.sub (Nat.le_refl _) fun p hp A2=>by rw[iF p (by omega),kC p (by omega),iB p A2]
 have gC:Ag c B.ins.length C.1:=A0.sub (by omega) fun p hp A2=>iF p (by omega);have jump:=A0.get (by omega) jF (show(19:Int)≠2 by decide);have jump2:=A0.get (by omega) jG (show(20:Int)≠2 by decide);have h0:=hf.nx;have A4:Fine c E sh G m.reg r:=⟨by show 0≤m.next+1; omega,fun x hx=>by have:=hf.g x hx; show 0≤x∧x<m.next+1; omega,hf.len,hf.kn⟩
 have A5:∀ x,G x→x≠m.next:=fun x hx=>by have:=hf.g x hx; omega
 have sA:=qz (u:=u) hR he IH ha da (out:=m.next) A4 A5 h0 (by show m.next<m.next+1; omega) (by rw[hA]; exact gA);rw[hA] at sA;have nA:m.reg.next≤A.1.next:=by rw[←hA]; exact zfw ha da rfl
 have nB:B.next=A.1.next:=by rw[←hB]; rfl
 have nF:F.next=C.1.next:=by rw[←hF]; rfl
 have kB:B.known=A.1.known:=by rw[←hB]; rfl
 have kF:F.known=A.1.known:=by rw[←hF]; exact kB
 have n1:m.reg.next=m.next+1:=rfl;have nC:sh=true→B.next≤C.1.next:=fun hs=>by rw[←hC]; exact zab hb db (by omega) hs
 have uC:∀ p∈A.2,p∈C.2:=fun p hp=>by rw[←hC]; exact zaa p hp
 rw[rn];cases hv:aq E a with
 |none=>
  rw[hv] at sA;exact(show Lost c E m A.1 A.2 f r from sA).more (by show _≤(F.free sh _).ins.length; rw[df]; omega) uC
 |some x=>
  rw[hv] at sA;obtain⟨k1,r1,s1,b1,g1,p1,v1,A1⟩:=sA;have hj:=qp (E:=E) (f:=f) (r:=r1) jump;have A3:=zfv (E:=E) (f:=f) (r:=r1) jump2;have gn:∀ x,Gn G m.reg A.1 x→sh=true→Gn G m F x:=fun x hx hs=>by
   rcases hx with hx|hx
   ·exact .inl hx
   ·have:=nC hs; exact .inr (by omega)
  simp only;by_cases hx:x=0
  ·rw[if_pos hx];rw[v1,if_pos hx] at hj;obtain⟨fB,xB⟩:=yk (b:=B) (y:=x) (k:=k1) A4 A5 rfl g1 A1 nA (by omega) kB;have sC:=qz (u:=A.2) hR he IH hb db (out:=m.next) fB xB h0 (by omega) (by rw[hC]; exact gC);rw[hC] at sC;cases hw:aq E b with
   |none=>
    rw[hw] at sC;exact((show Lost c E B C.1 C.2 f r1 from sC).ahead (m0:=m) (s1.trans hj) (by omega)).more (by show _≤(F.free sh _).ins.length; rw[df]; omega) fun p hp=>hp
   |some y=>
    rw[hw] at sC;obtain⟨k2,r2,s2,b2,g2,p2,v2,A7⟩:=sC;refine close hf.nx (by rw[lF]; exact(s1.trans hj).trans s2) (by omega) g2 (fun x hx A6=>by rw[p2 x hx (by omega) (by omega),p1 x hx (by omega) (by omega)]) v2 (fun hs=>by have:=nC hs; omega) fun hs=>?_;rw[kF];exact(fun hs=>((A1.regs (r':=r2) fun x hx=>p2 x (fB.g x hx).1 (fB.g x hx).2 (xB x hx)).mono (G':=Gn G m F) fun x hx=>gn x hx hs) hs) hs
  ·rw[if_neg hx];rw[v1,if_neg hx] at hj;rw[←lF] at A3;refine close hf.nx ((s1.trans hj).trans A3) (by omega) g1 (fun x hx A6=>p1 x hx (by omega) (by omega)) v1 (fun hs=>by have:=nC hs; omega) fun hs=>?_;rw[kF];exact(fun hs=>(A1.mono (G':=Gn G m F) fun x hx=>gn x hx hs) hs) hs
theorem zyq (hR:Gen.right c=true)(he:EnvOk E)(IH:zfk c E sh f d){a b b2:T}{n:Int}{s:ByteArray}(ha:Obs a)(hb:Obs b)(A6:Obs b2)(da:a.depth≤d)(db:b.depth≤d)(A7:b2.depth≤d)(hf:Fine c E sh G m r)
  (A0:Ag c m.ins.length (obs sh (d+1) (.mk 22 n s [a,b,b2]) m u).2.1):ObSem c E sh G m (obs sh (d+1) (.mk 22 n s [a,b,b2]) m u) f r (aq E (.mk 22 n s [a,b,b2])):=by
 obtain⟨A,hA⟩:∃ A,aj sh m.next (obs sh d a m.reg u)=A:=⟨_,rfl⟩
 obtain⟨B,hB⟩:∃ B,A.1.lay (ix 19 0 m.next 0)=B:=⟨_,rfl⟩
 obtain⟨C,hC⟩:∃ C,aj sh m.next (obs sh d b B A.2)=C:=⟨_,rfl⟩
 obtain⟨D,hD⟩:∃ D,((C.1.back B.known).lay (ix 20 0 0 0)).here A.1.ins.length=D:=⟨_,rfl⟩
 obtain⟨H,hH⟩:∃ H,aj sh m.next (obs sh d b2 D C.2)=H:=⟨_,rfl⟩
 obtain⟨F,hF⟩:∃ F,(H.1.back D.known).here C.1.ins.length=F:=⟨_,rfl⟩
 have e:obs sh (d+1) (.mk 22 n s [a,b,b2]) m u=(m.next,F.free sh (m.next+1),H.2):=by
  rw[yf rfl,←hF,←hH,←hD,←hC,←hB,←hA]; rfl
 rw[e] at A0 ⊢;replace A0:Ag c m.ins.length F:=A0.same (iu _ _ _);have l0:m.reg.ins.length=m.ins.length:=rfl;have lA:m.reg.ins.length+1≤A.1.ins.length:=by rw[←hA]; exact rf ..
 have lB:B.ins.length=A.1.ins.length+1:=by rw[←hB,ah]
 have lC:B.ins.length+1≤C.1.ins.length:=by rw[←hC]; exact rf ..
 have lD:D.ins.length=C.1.ins.length+1:=by rw[←hD,ak,ah,ao]
 have lH:D.ins.length+1≤H.1.ins.length:=by rw[←hH]; exact rf ..
 have lF:F.ins.length=H.1.ins.length:=by rw[←hF,ak,ao]
 have kC:Fz B.ins.length B.ins C.1:=by rw[←hC]; exact wl sh d b B A.2 m.next
 have kH:Fz D.ins.length D.ins H.1:=by rw[←hH]; exact wl sh d b2 D C.2 m.next
 have iF:∀ p,p≠C.1.ins.length→F.ins[p]? = H.1.ins[p]?:=fun p hp=>by rw[←hF,gp _ (Ne.symm hp)]; rfl
 have iB:∀ p,p<A.1.ins.length→B.ins[p]? = A.1.ins[p]?:=fun p hp=>by rw[←hB,dx _ _ hp]
 have iD:∀ p,p<C.1.ins.length→p≠A.1.ins.length→D.ins[p]? = C.1.ins[p]?:=fun p hp A2=>by rw[←hD,gp _ (Ne.symm A2),dx _ _ (by rw[ao]; exact hp)]; rfl
 have jF:F.ins[A.1.ins.length]? = some (gx (ix 19 0 m.next 0) D.ins.length):=by
  rw[iF _ (by omega),kH _ (by omega)]
  have:=mp ((C.1.back B.known).lay (ix 20 0 0 0)) (q:=A.1.ins.length) (x:=ix 19 0 m.next 0) (by
   rw[dx _ _ (by rw[ao]; omega)];show C.1.ins[_]? = _
   rw[kC _ (by omega),←hB]; exact dy _ _)
  rw[hD] at this;rw[this,ah,ao,lD]
 have jG:F.ins[C.1.ins.length]? = some (gx (ix 20 0 0 0) H.1.ins.length):=by
  rw[←hF];refine mp (H.1.back D.known) ?_;show H.1.ins[_]? = _
  rw[kH _ (by omega),←hD,gp _ (by omega)];exact dy (C.1.back B.known) (ix 20 0 0 0)
 have gA:Ag c m.reg.ins.length A.1:=A0.sub (Nat.le_refl _) fun p hp A2=>by rw[iF p (by omega),kH p (by omega),iD p (by omega) (by omega),kC p (by omega),iB p A2]
 have gC:Ag c B.ins.length C.1:=A0.sub (by omega) fun p hp A2=>by rw[iF p (by omega),kH p (by omega),iD p (by omega) (by omega)]
 have gH:Ag c D.ins.length H.1:=A0.sub (by omega) fun p hp A2=>iF p (by omega);have jump:=A0.get (by omega) jF (show(19:Int)≠2 by decide);have jump2:=A0.get (by omega) jG (show(20:Int)≠2 by decide);have h0:=hf.nx;have A3:Fine c E sh G m.reg r:=⟨by show 0≤m.next+1; omega,fun x hx=>by have:=hf.g x hx; show 0≤x∧x<m.next+1; omega,hf.len,hf.kn⟩
 have A4:∀ x,G x→x≠m.next:=fun x hx=>by have:=hf.g x hx; omega
 have sA:=qz (u:=u) hR he IH ha da (out:=m.next) A3 A4 h0 (by show m.next<m.next+1; omega) (by rw[hA]; exact gA);rw[hA] at sA;have nA:m.reg.next≤A.1.next:=by rw[←hA]; exact zfw ha da rfl
 have nB:B.next=A.1.next:=by rw[←hB]; rfl
 have nD:D.next=C.1.next:=by rw[←hD]; rfl
 have nF:F.next=H.1.next:=by rw[←hF]; rfl
 have kB:B.known=A.1.known:=by rw[←hB]; rfl
 have kD:D.known=A.1.known:=by rw[←hD]; exact kB
 have kF:F.known=A.1.known:=by rw[←hF]; exact kD
 have n1:m.reg.next=m.next+1:=rfl;have nC0:m.next+1≤C.1.next:=by rw[←hC]; exact zhb m.next _ (by have:=jr sh d b B A.2 hb db; omega)
 have nC:sh=true→B.next≤C.1.next:=fun hs=>by rw[←hC]; exact zab hb db (by omega) hs
 have nH:sh=true→D.next≤H.1.next:=fun hs=>by rw[←hH]; exact zab A6 A7 (by omega) hs
 have uC:∀ p∈A.2,p∈C.2:=fun p hp=>by rw[←hC]; exact zaa p hp
 have uH:∀ p∈C.2,p∈H.2:=fun p hp=>by rw[←hH]; exact zaa p hp
 rw[uf];cases hv:aq E a with
 |none=>
  rw[hv] at sA;exact(show Lost c E m A.1 A.2 f r from sA).more (by show _≤(F.free sh _).ins.length; rw[df]; omega) fun p hp=>uH p (uC p hp)
 |some x=>
  rw[hv] at sA;obtain⟨k1,r1,s1,b1,g1,p1,v1,A1⟩:=sA;have hj:=qp (E:=E) (f:=f) (r:=r1) jump;have gn:∀ x,Gn G m.reg A.1 x→sh=true→Gn G m F x:=fun x hx hs=>by
   rcases hx with hx|hx
   ·exact .inl hx
   ·have:=nC hs; have:=nH hs; exact .inr (by omega)
  simp only;by_cases hx:x=0
  ·rw[if_pos hx];rw[v1,if_pos hx] at hj;have fB:Fine c E sh (Gn G m.reg A.1) D r1∧∀ x,Gn G m.reg A.1 x→x≠m.next:=by
    cases sh with
    |true=>exact yk (b:=D) (y:=x) (k:=k1) A3 A4 rfl g1 A1 nA (by have:=nC rfl; omega) kD
    |false=>
     have h:=yk (b:=B) (y:=x) (k:=k1) A3 A4 rfl g1 A1 nA (by omega) kB;have eA:A.1.next=m.next+1:=by rw[←hA]; rfl
     refine⟨⟨by omega,fun x hx=>?_,g1,fun hs=>by cases hs⟩,h.2⟩
     have:=h.1.g x hx;omega
   obtain⟨fB,xB⟩:=fB;have sH:=qz (u:=C.2) hR he IH A6 A7 (out:=m.next) fB xB h0 (by omega) (by rw[hH]; exact gH);rw[hH] at sH;cases hw:aq E b2 with
   |none=>
    rw[hw] at sH;exact((show Lost c E D H.1 H.2 f r1 from sH).ahead (m0:=m) (s1.trans hj) (by omega)).more (by show _≤(F.free sh _).ins.length; rw[df]; omega) fun p hp=>hp
   |some y=>
    rw[hw] at sH;obtain⟨k2,r2,s2,b2,g2,p2,v2,A8⟩:=sH;refine close hf.nx (by rw[lF]; exact(s1.trans hj).trans s2) (by omega) g2 (fun x hx A9=>by rw[p2 x hx (by omega) (by omega),p1 x hx (by omega) (by omega)]) v2 (fun hs=>by have:=nC hs; have:=nH hs; omega) fun hs=>?_;rw[kF];exact(fun hs=>((A1.regs (r':=r2) fun x hx=>p2 x (fB.g x hx).1 (fB.g x hx).2 (xB x hx)).mono (G':=Gn G m F) fun x hx=>gn x hx hs) hs) hs
  ·rw[if_neg hx];rw[v1,if_neg hx,←lB] at hj;obtain⟨fB,xB⟩:=yk (b:=B) (y:=x) (k:=k1) A3 A4 rfl g1 A1 nA (by omega) kB;have sC:=qz (u:=A.2) hR he IH hb db (out:=m.next) fB xB h0 (by omega) (by rw[hC]; exact gC);rw[hC] at sC;cases hw:aq E b with
   |none=>
    rw[hw] at sC;exact((show Lost c E B C.1 C.2 f r1 from sC).ahead (m0:=m) (s1.trans hj) (by omega)).more (by show _≤(F.free sh _).ins.length; rw[df]; omega) uH
   |some y=>
    rw[hw] at sC;obtain⟨k2,r2,s2,b2,g2,p2,v2,A8⟩:=sC;have A5:=zfv (E:=E) (f:=f) (r:=r2) jump2;rw[←lF] at A5;refine close hf.nx (((s1.trans hj).trans s2).trans A5) (by omega) g2 (fun x hx A9=>by rw[p2 x hx (by omega) (by omega),p1 x hx (by omega) (by omega)]) v2 (fun hs=>by have:=nC hs; have:=nH hs; omega) fun hs=>?_;rw[kF];exact(fun hs=>((A1.regs (r':=r2) fun x hx=>p2 x (fB.g x hx).1 (fB.g x hx).2 (xB x hx)).mono (G':=Gn G m F) fun x hx=>gn x hx hs) hs) hs
end
end Sm
end
section
open Go.RowKit
namespace Gf
open Co Gen Dn
def jt (W:Nat)(x:Ix):Bool:=
 if x.op=1 then within x.n (-1000000000000000) 1000000000000000
 else if x.op=2∨x.op=3 then within x.n 0 3660
 else if x.op=21∨x.op=22 then within x.n 0 73048
 else if x.op=28∨x.op=29 then within x.n 0 (W - 1)
 else decide (x.n=0)
def ixF (R:Int)(W:Nat)(x:Ix):Bool:=decide (1≤x.op) && (decide (x.op≤30) && (fld (eg x.op) x.a R && (fld (fk x.op) x.b R && (fld (gg x.op) x.c R && (jt W x && bu x)))))
theorem zds {u:Bool}{r R R':Int}(h:fld u r R=true)(hR:R≤R'):fld u r R'=true:=by
 unfold fld at *;cases u
 ·exact h
 ·simp only[if_true,Bool.and_eq_true,decide_eq_true_eq] at *; omega
theorem zqa {W W':Nat}{x:Ix}(h:jt W x=true)(hW:W≤W'):jt W' x=true:=by
 unfold jt within at *;repeat' split at h
 all_goals first
  |(rename_i h1; rw[if_pos h1]; exact h)
  |skip
 ·rename_i h1 h2; rw[if_neg h1,if_pos h2]; exact h
 ·rename_i h1 h2 h3; rw[if_neg h1,if_neg h2,if_pos h3]; exact h
 ·rename_i h1 h2 h3 h4; rw[if_neg h1,if_neg h2,if_neg h3,if_pos h4]; simp only[Bool.and_eq_true,decide_eq_true_eq] at *; omega
 ·rename_i h1 h2 h3 h4; rw[if_neg h1,if_neg h2,if_neg h3,if_neg h4]; exact h
theorem zjo {R R':Int}{W W':Nat}{x:Ix}(h:ixF R W x=true)(hR:R≤R')(hW:W≤W'):ixF R' W' x=true:=by
 unfold ixF at *;simp only[Bool.and_eq_true,decide_eq_true_eq] at *;obtain⟨h1,h2,h3,h4,h5,h6,h7⟩:=h;exact⟨h1,h2,zds h3 hR,zds h4 hR,zds h5 hR,zqa h6 hW,h7⟩
def toF (L p:Nat)(o:Prop)(x:Ix):Prop:=if kx x.op=true then o∨((p:Int)<x.to∧x.to≤L) else x.to=0
theorem zf {L L' p:Nat}{o o':Prop}{x:Ix}(h:toF L p o x)(hL:L≤L')(ho:o→o'):toF L' p o' x:=by
 unfold toF at *;split at h
 ·rename_i e; rw[if_pos e]; exact h.imp ho (fun h=>by omega)
 ·rename_i e; rw[if_neg e]; exact h
def wt0:Wt:=⟨0,0,txt0,0,0⟩
structure WOk (L:Nat)(w:Wt):Prop where
 e:0≤w.entry∧w.entry<L
 d:0≤w.day∧w.day≤73048
 l:(w.label=txt0∧w.first=0∧w.second=0)∨(Led.isName w.label=true∧(0≤w.first∧w.first<L)∧0≤w.second∧w.second<L)
theorem WOk.mono {L L':Nat}{w:Wt}(h:WOk L w)(hL:L≤L'):WOk L' w:=⟨by have:=h.e; omega,h.d,h.l.imp id fun h=>⟨h.1,by have:=h.2.1; omega,by have:=h.2.2; omega⟩⟩
def kk (m:Mk)(j:Nat):Prop:=∃ x∈m.jobs,x.1=j
structure Rt (O Fl:Nat→Prop)(m:Mk):Prop where
 ins:∀(p:Nat) x,m.ins[p]? = some x→ixF m.regs m.ws.length x=true∧toF m.ins.length p (O p) x
 calls:∀(p:Nat) x,m.ins[p]? = some x→x.op=29→∃ j:Nat,x.n=j∧(kk m j∨∃ w,m.ws[j]? = some w∧(p:Int)<w.entry)
 waits:∀(j:Nat) w,m.ws[j]? = some w→kk m j∨Fl j∨WOk m.ins.length w
 jobs:∀ x∈m.jobs,m.ws[x.1]? = some wt0
 nd:(m.jobs.map Prod.fst).Nodup
section
variable {O O' Fl Fl':Nat→Prop}{m m':Mk}
theorem Rt.weak (h:Rt O Fl m)(ho:∀ q,O q→O' q):Rt O' Fl m:=⟨fun p x hx=>⟨(h.ins p x hx).1,zf (h.ins p x hx).2 (Nat.le_refl _) (ho p)⟩,h.calls,h.waits,h.jobs,h.nd⟩
theorem Rt.same (h:Rt O Fl m)(h1:m'.ins=m.ins)(h2:m'.ws=m.ws)(h3:m'.jobs=m.jobs)(h4:m.regs≤m'.regs):Rt O Fl m':=by
 have hp:∀ j,kk m j→kk m' j:=fun j ⟨x,hx,e⟩=>⟨x,by rw[h3]; exact hx,e⟩
 refine⟨fun p x hx=>?_,fun p x hx ho=>?_,fun j w hw=>?_,fun x hx=>?_,by rw[h3]; exact h.nd⟩
 ·rw[h1] at hx
  have:=h.ins p x hx;rw[h1,h2];exact⟨zjo this.1 h4 (Nat.le_refl _),this.2⟩
 ·rw[h1] at hx;obtain⟨j,e,h5⟩:=h.calls p x hx ho;exact⟨j,e,h5.imp (hp j) (by rw[h2]; exact id)⟩
 ·rw[h2] at hw;rw[h1];exact(h.waits j w hw).imp (hp j) id
 ·rw[h3] at hx;rw[h2];exact h.jobs x hx
theorem Rt.lay (h:Rt O Fl m){x:Ix}(hx:ixF m.regs m.ws.length x=true)(ht:toF (m.ins.length+1) m.ins.length (O m.ins.length) x)(ho:x.op≠29):Rt O Fl (m.lay x):=by
 have hl:=ah m x;have A2:∀(p:Nat) y,(m.lay x).ins[p]? = some y→m.ins[p]? = some y∨(p=m.ins.length∧y=x):=by
  intro p y hy;have A0:(m.ins++[x])[p]? = some y:=hy;by_cases hp:p<m.ins.length
  ·rw[List.getElem?_append_left hp] at A0;exact .inl A0
  ·have A3:=(List.getElem?_eq_some_iff.1 A0).1;simp at A3;obtain rfl:p=m.ins.length:=by omega
   simp at A0;exact .inr ⟨rfl,A0.symm⟩
 refine⟨fun p y hy=>?_,fun p y hy A1=>?_,fun j w hw=>?_,h.jobs,h.nd⟩
 ·rcases A2 p y hy with h1|⟨rfl,rfl⟩
  ·have:=h.ins p y h1;exact⟨this.1,zf this.2 (by omega) id⟩
  ·exact⟨hx,by rw[hl]; exact ht⟩
 ·rcases A2 p y hy with h1|⟨rfl,rfl⟩
  ·exact h.calls p y h1 A1
  ·exact absurd A1 ho
 ·exact(h.waits j w hw).imp id fun h=>h.imp id fun h=>h.mono (by omega)
theorem Rt.jump (h:Rt O Fl m){x:Ix}(hx:ixF m.regs m.ws.length x=true)(ht:kx x.op=true)(ho:x.op≠29):Rt (fun q=>O q∨q=m.ins.length) Fl (m.lay x):=
 (h.weak fun q hq=>.inl hq).lay hx (by unfold toF; rw[if_pos ht]; exact .inl (.inr rfl)) ho
theorem Rt.plain (h:Rt O Fl m){x:Ix}(hx:ixF m.regs m.ws.length x=true)(ht:kx x.op=false)(h0:x.to=0)(ho:x.op≠29):Rt O Fl (m.lay x):=
 h.lay hx (by unfold toF; rw[if_neg (by rw[ht]; decide)]; exact h0) ho
def OpenAt (m:Mk)(p:Nat):Prop:=∃ x,m.ins[p]? = some x∧kx x.op=true
theorem OpenAt.ext {p:Nat}(h:OpenAt m p)(e:Ext m m'):OpenAt m' p:=by
 obtain⟨x,h1,h2⟩:=h;obtain⟨t,h3⟩:=e.ins p x h1;exact⟨_,h3,h2⟩
theorem OpenAt.lay (m:Mk){x:Ix}(h:kx x.op=true):OpenAt (m.lay x) m.ins.length:=⟨x,by show(m.ins++[x])[m.ins.length]? = _; simp,h⟩
theorem OpenAt.lt {p:Nat}(h:OpenAt m p):p<m.ins.length:=by
 obtain⟨x,h1, -⟩:=h;exact(List.getElem?_eq_some_iff.1 h1).1
theorem Rt.here (h:Rt O Fl m){p:Nat}(hp:OpenAt m p):Rt (fun q=>O q∧q≠p) Fl (m.here p):=by
 have hl:=ak m p;have A1:=hp.lt;refine⟨fun q y hy=>?_,fun q y hy A0=>?_,fun j w hw=>?_,h.jobs,h.nd⟩
 ·rw[qb] at hy;rw[hl];split at hy
  ·rename_i e;subst e;obtain⟨x,h1,h2⟩:=hp;rw[h1] at hy;simp only[Option.map_some,Option.some.injEq] at hy;subst hy;refine⟨(h.ins p x h1).1,?_⟩;unfold toF;rw[if_pos (by exact h2)];refine .inr ⟨?_,?_⟩
   ·show(p:Int)<(m.ins.length:Int); omega
   ·show(m.ins.length:Int)≤_; omega
  ·rename_i e;exact⟨(h.ins q y hy).1,zf (h.ins q y hy).2 (Nat.le_refl _) fun h=>⟨h,fun e2=>e e2.symm⟩⟩
 ·rw[qb] at hy;split at hy
  ·rename_i e;subst e;obtain⟨x,h1,h2⟩:=hp;rw[h1] at hy;simp only[Option.map_some,Option.some.injEq] at hy;subst hy;exact h.calls p x h1 A0
  ·exact h.calls q y hy A0
 ·rw[hl];exact h.waits j w hw
theorem Rt.call (h:Rt O Fl m)(t:T):Rt O Fl (m.call t):=by
 have A2:(m.call t).ins.length=m.ins.length+1:=by simp[Mk.call]
 have A6:(m.call t).ws.length=m.ws.length+1:=by simp[Mk.call]
 have hp:∀ j,kk m j→kk (m.call t) j:=fun j ⟨x,hx,e⟩=>⟨x,List.mem_append_left _ hx,e⟩
 have hold:∀(j:Nat) w,m.ws[j]? = some w→(m.call t).ws[j]? = some w:=fun j w hw=>by
  show(m.ws++[wt0])[j]? = _
  rw[List.getElem?_append_left (List.getElem?_eq_some_iff.1 hw).1];exact hw
 have A1:kk (m.call t) m.ws.length:=⟨(m.ws.length,t),List.mem_append_right _ (by simp),rfl⟩
 have A5:∀(p:Nat) y,(m.call t).ins[p]? = some y→m.ins[p]? = some y∨(p=m.ins.length∧y=ix 29 0 0 m.ws.length):=by
  intro p y hy;have A0:(m.ins++[ix 29 0 0 m.ws.length])[p]? = some y:=hy;by_cases hp:p<m.ins.length
  ·rw[List.getElem?_append_left hp] at A0;exact .inl A0
  ·have A4:=(List.getElem?_eq_some_iff.1 A0).1;simp at A4;obtain rfl:p=m.ins.length:=by omega
   simp at A0;exact .inr ⟨rfl,A0.symm⟩
 refine⟨fun p y hy=>?_,fun p y hy A7=>?_,fun j w hw=>?_,fun x hx=>?_,?_⟩
 ·rw[A2,A6];rcases A5 p y hy with h1|⟨rfl,rfl⟩
  ·exact⟨zjo (h.ins p y h1).1 (Int.le_refl _) (by omega),zf (h.ins p y h1).2 (by omega) id⟩
  ·refine⟨?_,?_⟩
   ·simp[ixF,ix,fld,eg,fk,gg,jt,bu,txt0,within]
   ·unfold toF;rw[if_neg (by simp[ix,kx])];rfl
 ·rcases A5 p y hy with h1|⟨rfl,rfl⟩
  ·obtain⟨j,e,h2⟩:=h.calls p y h1 A7;exact⟨j,e,h2.imp (hp j) fun⟨w,h3,h4⟩=>⟨w,hold j w h3,h4⟩⟩
  ·exact⟨m.ws.length,rfl,.inl A1⟩
 ·have A3:(m.ws++[wt0])[j]? = some w:=hw;by_cases hj:j<m.ws.length
  ·rw[List.getElem?_append_left hj] at A3;rw[A2];exact(h.waits j w A3).imp (hp j) fun h=>h.imp id fun h=>h.mono (by omega)
  ·have A4:=(List.getElem?_eq_some_iff.1 A3).1;simp at A4;obtain rfl:j=m.ws.length:=by omega
   exact .inl A1
 ·rcases List.mem_append.1 hx with h1|h1
  ·exact hold _ _ (h.jobs x h1)
  ·rw[List.mem_singleton] at h1;subst h1;show(m.ws++[wt0])[m.ws.length]? = _
   simp
 ·show((m.jobs++[(m.ws.length,t)]).map Prod.fst).Nodup
  rw[List.map_append,List.nodup_append];refine⟨h.nd,by simp,fun a ha b hb=>?_⟩;simp at hb;subst hb;obtain⟨x,hx,rfl⟩:=List.mem_map.1 ha
  have:=(List.getElem?_eq_some_iff.1 (h.jobs x hx)).1;omega
end
/-! What instructions are. -/
section
variable {R:Int}{W:Nat}{a b n:Int}
theorem f18 (ha:0≤a∧a<R)(hb:0≤b∧b<R):ixF R W (ix 18 a b 0)=true:=by
 simp[ixF,ix,fld,eg,fk,gg,jt,bu,txt0];repeat' apply And.intro
 all_goals first|omega|exact decide_eq_true (by omega)
theorem f19 (hb:0≤b∧b<R):ixF R W (ix 19 0 b 0)=true:=by
 simp[ixF,ix,fld,eg,fk,gg,jt,bu,txt0];repeat' apply And.intro
 all_goals first|omega|exact decide_eq_true (by omega)
theorem f20:ixF R W (ix 20 0 0 0)=true:=by
 simp[ixF,ix,fld,eg,fk,gg,jt,bu,txt0]
theorem f21 (hn:0≤n∧n≤73048):ixF R W (ix 21 0 0 n)=true:=by
 simp[ixF,ix,fld,eg,fk,gg,jt,bu,txt0,within];repeat' apply And.intro
 all_goals first|omega|exact decide_eq_true (by omega)
theorem f22 (hn:0≤n∧n≤73048):ixF R W (ix 22 0 0 n)=true:=by
 simp[ixF,ix,fld,eg,fk,gg,jt,bu,txt0,within];repeat' apply And.intro
 all_goals first|omega|exact decide_eq_true (by omega)
theorem f23 (hb:0≤b∧b<R):ixF R W (ix 23 0 b 0)=true:=by
 simp[ixF,ix,fld,eg,fk,gg,jt,bu,txt0];repeat' apply And.intro
 all_goals first|omega|exact decide_eq_true (by omega)
theorem f24:ixF R W (ix 24 0 0 0)=true:=by
 simp[ixF,ix,fld,eg,fk,gg,jt,bu,txt0]
theorem f25 (ha:0≤a∧a<R):ixF R W (ix 25 a 0 0)=true:=by
 simp[ixF,ix,fld,eg,fk,gg,jt,bu,txt0];repeat' apply And.intro
 all_goals first|omega|exact decide_eq_true (by omega)
theorem f26 (hb:0≤b∧b<R):ixF R W (ix 26 0 b 0)=true:=by
 simp[ixF,ix,fld,eg,fk,gg,jt,bu,txt0];repeat' apply And.intro
 all_goals first|omega|exact decide_eq_true (by omega)
theorem f27 {s:ByteArray}(hs:Led.isCur s=true):ixF R W ⟨27,0,0,0,0,s,0⟩=true:=by
 simp[ixF,ix,fld,eg,fk,gg,jt,bu,txt0,hs]
theorem f28 {j:Nat}(hj:j<W):ixF R W (ix 28 0 0 j)=true:=by
 simp[ixF,ix,fld,eg,fk,gg,jt,bu,txt0,within];repeat' apply And.intro
 all_goals first|omega|exact decide_eq_true (by omega)
theorem f30:ixF R W (ix 30 0 0 0)=true:=by
 simp[ixF,ix,fld,eg,fk,gg,jt,bu,txt0]
theorem f1 (ha:0≤a∧a<R)(hn : -1000000000000000≤n∧n≤1000000000000000):ixF R W ⟨1,a,0,0,n,txt0,0⟩=true:=by
 simp[ixF,ix,fld,eg,fk,gg,jt,bu,txt0,within];repeat' apply And.intro
 all_goals first|omega|exact decide_eq_true (by omega)
theorem f2 {s:ByteArray}(ha:0≤a∧a<R)(hn:0≤n∧n≤3660)(hs:Led.isName s=true):ixF R W ⟨2,a,0,0,n,s,0⟩=true:=by
 simp[ixF,ix,fld,eg,fk,gg,jt,bu,txt0,within,hs];repeat' apply And.intro
 all_goals first|omega|exact decide_eq_true (by omega)
theorem f3 (ha:0≤a∧a<R)(hn:0≤n∧n≤3660):ixF R W ⟨3,a,0,0,n,txt0,0⟩=true:=by
 simp[ixF,ix,fld,eg,fk,gg,jt,bu,txt0,within];repeat' apply And.intro
 all_goals first|omega|exact decide_eq_true (by omega)
theorem qag {op:Int}(ho:op=4∨op=12)(ha:0≤a∧a<R):ixF R W ⟨op,a,a,0,0,txt0,0⟩=true:=by
 rcases ho with rfl|rfl<;>(simp[ixF,ix,fld,eg,fk,gg,jt,bu,txt0]; repeat' apply And.intro)<;>first|omega|exact decide_eq_true (by omega)
theorem qaf {op:Int}(ho:op=5∨op=6∨op=7∨op=8∨op=9∨op=10∨op=11∨op=13∨op=14∨op=15∨op=16∨op=17)(ha:0≤a∧a<R)(hb:0≤b∧b<R):ixF R W ⟨op,a,a,b,0,txt0,0⟩=true:=by
 rcases ho with rfl|rfl|rfl|rfl|rfl|rfl|rfl|rfl|rfl|rfl|rfl|rfl<;>(simp[ixF,ix,fld,eg,fk,gg,jt,bu,txt0]; repeat' apply And.intro)<;>first|omega|exact decide_eq_true (by omega)
end
end Gf
end
section
open Go.RowKit
namespace Gf
open Co Gen Dn
theorem zan {op n:Int}{s:ByteArray}{ks:List T}(h:(T.mk op n s ks).ahead=false):(op=4∨op=5→0≤n)∧∀ k∈ks,k.ahead=false:=by
 unfold T.ahead at h ⊢;rw[T.nodes,List.any_cons,Bool.or_eq_false_iff] at h;refine⟨fun ho=>?_,fun k hk=>?_⟩
 ·have h1:=h.1;rw[Bool.and_eq_false_iff] at h1;rcases h1 with h1|h1
  ·rcases ho with rfl|rfl<;>simp at h1
  ·have:=of_decide_eq_false h1; omega
 ·cases hb:k.nodes.any fun x=>(x.1 == 4 || x.1 == 5) && decide (x.2<0) with
  |false=>rfl
  |true=>
   obtain⟨x,hx,e⟩:=List.any_eq_true.1 hb
   have:=List.any_eq_false.1 h.2 x (mem_nodess.2 ⟨k,hk,hx⟩);exact absurd e this
theorem oh {op n:Int}{s:ByteArray}{ks:List T}(h:Obs (.mk op n s ks))(A0:op≠22):fields op n s=true:=(letter_inv rfl h.1 A0).2
theorem zhd {n:Int}{s:ByteArray}(h:fields 4 n s=true):Led.isName s=true ∧ -3660≤n∧n≤3660:=by
 simp[fields,Gen.within] at h;exact⟨h.1,by omega⟩
theorem Rt.reg {O Fl:Nat→Prop}{m:Mk}(h:Rt O Fl m):Rt O Fl m.reg:=h.same rfl rfl rfl (by show m.regs≤max m.regs (m.next+1); omega)
theorem Rt.free {O Fl:Nat→Prop}{m:Mk}(h:Rt O Fl m)(sh:Bool)(r:Int):Rt O Fl (m.free sh r):=by
 unfold Mk.free;split
 ·exact h
 ·exact h.same rfl rfl rfl (Int.le_refl _)
theorem Rt.back {O Fl:Nat→Prop}{m:Mk}(h:Rt O Fl m)(k:Val→Option Int):Rt O Fl (m.back k):=h.same rfl rfl rfl (Int.le_refl _)
theorem li (m:Mk)(sh:Bool)(r:Int):(m.free sh r).regs=m.regs:=by unfold Mk.free; cases sh<;>rfl
structure ObRt (O Fl:Nat→Prop)(D:Nat)(t:T)(m:Mk)(u:List Nat)(o:Ob):Prop where
 r:o.1=m.next
 nx:o.2.1.next=m.next+1
 lo:m.next+1≤o.2.1.regs
 mo:m.regs≤o.2.1.regs
 hi:o.2.1.regs≤max m.regs (m.next+D)
 rt:Rt (fun q=>O q∨q∈o.2.2) Fl o.2.1
 op:∀ p∈o.2.2,p∈u∨OpenAt o.2.1 p
 un:cr t=false→o.2.2=u
theorem zbf {O Fl:Nat→Prop}{D:Nat}{t:T}{m:Mk}{u:List Nat}(v:Val)(hD:1≤D)(h0:0≤m.next)(h:Rt (fun q=>O q∨q∈u) Fl m)(hx:∀ R W,m.next<R→ixF R W (v.ix m.next)=true)(ho:v.op=1∨v.op=2∨v.op=3)(hf:v.op=2→cr t=true):
  ObRt O Fl D t m u (au false v m u):=by
 have e:au false v m u=(m.next,(m.reg.lay (v.ix m.next)).put v m.next,if v.op=2 then u++[m.ins.length] else u):=rfl;rw[e];have hr:m.next<m.reg.regs:=by show m.next<max m.regs (m.next+1); omega
 have h1:=h.reg;have hn:(v.ix m.next).op≠29:=by show v.op≠29; omega
 refine⟨rfl,rfl,?_,?_,?_,?_,?_,?_⟩
 ·show m.next+1≤max m.regs (m.next+1); omega
 ·show m.regs≤max m.regs (m.next+1); omega
 ·show max m.regs (m.next+1)≤_; omega
 ·by_cases h2:v.op=2
  ·rw[if_pos h2]
   have:=h1.jump (hx m.reg.regs m.reg.ws.length hr) (by show kx v.op=true; rw[h2]; decide) hn;refine(this.same (m':=(m.reg.lay (v.ix m.next)).put v m.next) rfl rfl rfl (Int.le_refl _)).weak fun q hq=>?_;rcases hq with(h3|h3)|h3
   ·exact .inl h3
   ·exact .inr (List.mem_append_left _ h3)
   ·exact .inr (List.mem_append_right _ (by rw[List.mem_singleton]; exact h3))
  ·rw[if_neg h2];exact(h1.plain (hx m.reg.regs m.reg.ws.length hr) (by show kx v.op=false; rcases ho with e|e|e<;>rw[e]<;>first|decide|exact absurd e h2) rfl hn).same rfl rfl rfl (Int.le_refl _)
 ·intro p hp;by_cases h2:v.op=2
  ·rw[if_pos h2] at hp;rcases List.mem_append.1 hp with h3|h3
   ·exact .inl h3
   ·rw[List.mem_singleton] at h3;subst h3;exact .inr (OpenAt.lay m.reg (x:=v.ix m.next) (by show kx v.op=true; rw[h2]; decide))
  ·rw[if_neg h2] at hp;exact .inl hp
 ·intro A0;show(if v.op=2 then u++[m.ins.length] else u)=u
  rw[if_neg fun e=>by rw[hf e] at A0; cases A0]
structure InRt (O Fl:Nat→Prop)(out:Int)(k:T)(m:Mk)(u:List Nat)(A:Mk × List Nat):Prop where
 nx:A.1.next=out+1
 mo:m.regs≤A.1.regs
 hi:A.1.regs≤max m.regs (out+1+k.depth)
 rt:Rt (fun q=>O q∨q∈A.2) Fl A.1
 op:∀ p∈A.2,p∈u∨OpenAt A.1 p
 un:cr k=false→A.2=u
 ex:Ext m A.1
theorem zxn {O Fl:Nat→Prop}{d:Nat}{k:T}{m:Mk}{u:List Nat}{out:Int}(h:ObRt O Fl k.depth k m u (obs false d k m u))(h0:0≤out)(hn:m.next=out+1)(hr:out<m.regs):InRt O Fl out k m u (aj false out (obs false d k m u)):=by
 have he:=jg false d k m u;generalize obs false d k m u=o at *;have h1:=h.r;have h2:=h.lo;have h3:=h.mo;have h4:=h.hi;have hex:Ext m (aj false out o).1:=zac false out he;have A0:Ext o.2.1 (aj false out o).1:=zac false out (Ext.refl _);refine⟨rfl,h3,?_,?_,fun p hp=>(h.op p hp).imp id fun h=>h.ext A0,h.un,hex⟩
 ·show o.2.1.regs≤_
  rw[hn] at h4;exact h4
 ·exact(h.rt.plain (x:=ix 18 out o.1 0) (f18 ⟨h0,by omega⟩ ⟨by omega,by omega⟩) rfl rfl (by show(18:Int)≠29; decide)).free false _
theorem ziu {op:Int}(h:ct op):ai op=5∨ai op=6∨ai op=7∨ai op=8∨ai op=9∨ai op=10∨ai op=11∨ai op=13∨ai op=14∨ai op=15∨ai op=16∨ai op=17:=by
 unfold ct at h;unfold ai;split<;>omega
theorem zak {op n:Int}{s:ByteArray}{ks:List T}:(T.mk op n s ks).depth=1+gv ks:=by rw[T.depth]
theorem zyi {a b c:Prop}(h:(a∨b)∨c):(a∨c)∨b:=h.elim (fun h=>h.elim (fun h=>.inl (.inl h)) .inr) (fun h=>.inl (.inr h))
theorem qae {a b c d:Prop}(h:(((a∨b)∨c)∨d)∧¬c):(a∨d)∨b:=h.1.elim (fun g=>g.elim (fun g=>g.elim (fun g=>.inl (.inl g)) .inr) (fun g=>absurd g h.2)) (fun g=>.inl (.inr g))
theorem qad {a b c d:Prop}(h:(((a∨c)∨b)∨d)∧¬c):(a∨d)∨b:=h.1.elim (fun g=>g.elim (fun g=>g.elim (fun g=>.inl (.inl g)) (fun g=>absurd g h.2)) .inr) (fun g=>.inl (.inr g))
theorem zbi (d:Nat):∀(t:T) (m:Mk) (u:List Nat) (O Fl:Nat→Prop),Obs t→t.depth≤d→t.ahead=false→0≤m.next→Rt (fun q=>O q∨q∈u) Fl m→ObRt O Fl t.depth t m u (obs false d t m u):=by
 induction d with
 |zero=>intro t m u O Fl _ hd; have:=je t; omega
 |succ d ih=>
  intro t m u O Fl ht hd B7 h0 hR;obtain⟨op,n,s,ks⟩:=t;obtain⟨A9,A5⟩:=zan B7;have hD:=je (T.mk op n s ks);have A1:∀ k∈ks,k.depth≤d∧k.depth+1≤(T.mk op n s ks).depth:=fun k hk=>by
   have h1:=em hk;rw[zak] at hd ⊢;omega
  have A0:cr (T.mk op n s ks)=false→op≠4∧∀ k∈ks,cr k=false:=fun e=>by
   rw[fy,Bool.or_eq_false_iff] at e;refine⟨by simpa using e.1,fun k hk=>?_⟩
   have:=List.any_eq_false.1 e.2 k hk;simpa using this
  have A2:∀(O:Nat→Prop) (k:T) (m':Mk) (u:List Nat),Obs k→k∈ks→m'.next=m.next+1→m.next<m'.regs→Rt (fun q=>O q∨q∈u) Fl m'→InRt O Fl m.next k m' u (aj false m.next (obs false d k m' u)):=
   fun O k m' u hk hm e hr h=>zxn (ih k m' u O Fl hk (A1 k hm).1 (A5 k hm) (by omega) h) h0 e hr
  rcases cy ht with h1|⟨rfl,h2⟩|⟨rfl,h2⟩|⟨h1,a,rfl,ha, -⟩|⟨h1,a,b,rfl,ha,hb⟩|⟨rfl,a,b,c,rfl,ha,hb,hc⟩|⟨h1,a,b,rfl,ha,hb⟩
  ·rw[px (t:=.mk op n s ks) h1];have hf:=fields_range (oh ht (by omega));exact zbf _ hD h0 hR (fun R W hr=>f1 ⟨h0,hr⟩ hf) (.inl rfl) (fun e=>absurd (show(1:Int)=2 from e) (by decide))
  ·rw[qx rfl];have hf:=zhd (oh ht (by decide));exact zbf _ hD h0 hR (fun R W hr=>f2 ⟨h0,hr⟩ ⟨A9 (.inl rfl),h2.2⟩ hf.1) (.inr (.inl rfl)) (fun _=>by rw[fy]; rfl)
  ·rw[tu rfl];exact zbf _ hD h0 hR (fun R W hr=>f3 ⟨h0,hr⟩ ⟨A9 (.inr rfl),h2.2⟩) (.inr (.inr rfl)) (fun e=>absurd (show(3:Int)=2 from e) (by decide))
  ·rw[mj (by show 6≤op∧op≤21∧op≠15∧op≠16; omega),iz (a:=a) (by simp[T.ks]) ay rfl];have A8:=A1 a (by simp);have g:=ih a m u O Fl ha A8.1 (A5 a (by simp)) h0 hR;generalize obs false d a m u=o at *;have g1:=g.r;have g2:=g.lo;have g3:=g.mo;have g4:=g.hi;have A3:ai op=4∨ai op=12:=by unfold ai; split<;>omega
   rw[if_neg (by decide)];refine⟨g1,rfl,g2,g3,?_,?_,fun p hp=>(g.op p hp).imp id fun h=>h.ext (show Ext o.2.1 ((o.2.1.lay _).free false (m.next+1)) from((Ext.refl _).lay _).free _ _),fun e=>g.un ((A0 e).2 a (by simp))⟩
   ·show o.2.1.regs≤_
    omega
   ·exact(g.rt.plain (qag A3 ⟨by omega,by omega⟩) (by show kx (ai op)=false; rcases A3 with e|e<;>rw[e]<;>decide) rfl (by show ai op≠29; omega)).free false _
  ·have A7:m.next<m.reg.regs:=by show m.next<max m.regs (m.next+1); omega
   have gA:=A2 O a m.reg u (cf ha) (by simp) rfl A7 hR.reg;have B5:=A1 a (by simp);have B4:=A1 b (by simp);have A6:m.reg.regs=max m.regs (m.next+1):=rfl;rcases h1 with rfl|rfl
   ·rw[tv rfl];unfold chosen iq;simp only[ay,bx];generalize aj false m.next (obs false d a m.reg u)=A at *;have a1:=gA.nx;have a2:=gA.mo;have a3:=gA.hi;have gj:=gA.rt.jump (x:=ix 19 0 m.next 0) (f19 ⟨h0,by omega⟩) rfl (by show(19:Int)≠29; decide);have oj:OpenAt (A.1.lay (ix 19 0 m.next 0)) A.1.ins.length:=OpenAt.lay A.1 rfl;have gB:=A2 (fun q=>O q∨q=A.1.ins.length) b (A.1.lay (ix 19 0 m.next 0)) A.2 hb (by simp) a1 (by show m.next<A.1.regs; omega) (gj.weak fun q hq=>zyi hq);have eB:=gB.ex;generalize aj false m.next (obs false d b (A.1.lay (ix 19 0 m.next 0)) A.2)=B at *;have b2:=gB.mo;have b3:=gB.hi;have e1:(A.1.lay (ix 19 0 m.next 0)).regs=A.1.regs:=rfl;have hx:Ext B.1 (((B.1.back (A.1.lay (ix 19 0 m.next 0)).known).here A.1.ins.length).free false (m.next+1)):=((((Ext.refl _).back _).here _).free _ _)
    refine⟨rfl,rfl,?_,?_,?_,?_,fun p hp=>?_,fun e=>(gB.un ((A0 e).2 b (by simp))).trans (gA.un ((A0 e).2 a (by simp)))⟩
    ·show m.next+1≤B.1.regs; omega
    ·show m.regs≤B.1.regs; omega
    ·show B.1.regs≤_; omega
    ·refine(((gB.rt.back (A.1.lay (ix 19 0 m.next 0)).known).here (oj.ext (eB.back _))).weak fun q hq=>?_).free false _;rcases hq with⟨(h|h)|h,A4⟩
     ·exact .inl h
     ·exact absurd h A4
     ·exact .inr h
    ·rcases gB.op p hp with h|h
     ·exact(gA.op p h).imp id fun h=>h.ext (((Ext.refl _).lay _).trans (eB.trans hx))
     ·exact .inr (h.ext hx)
   ·rw[yd rfl];unfold chosen jy;simp only[ay,bx];generalize aj false m.next (obs false d a m.reg u)=A at *;have a1:=gA.nx;have a2:=gA.mo;have a3:=gA.hi;have gj:=gA.rt.jump (x:=ix 19 0 m.next 0) (f19 ⟨h0,by omega⟩) rfl (by show(19:Int)≠29; decide);have oj:OpenAt (A.1.lay (ix 19 0 m.next 0)) A.1.ins.length:=OpenAt.lay A.1 rfl;have B0:=(gj.jump (x:=ix 20 0 0 0) f20 rfl (by show(20:Int)≠29; decide))
    have B3:OpenAt ((A.1.lay (ix 19 0 m.next 0)).lay (ix 20 0 0 0)) (A.1.ins.length+1):=by have:=OpenAt.lay (A.1.lay (ix 19 0 m.next 0)) (x:=ix 20 0 0 0) rfl; rwa [ah] at this
    rw[ah] at B0;have B9:=B0.here (oj.ext ((Ext.refl _).lay _));have B2:=B3.ext ((Ext.refl _).here A.1.ins.length);have gB:=A2 (fun q=>O q∨q=A.1.ins.length+1) b (((A.1.lay (ix 19 0 m.next 0)).lay (ix 20 0 0 0)).here A.1.ins.length) A.2 hb (by simp) a1 (by show m.next<A.1.regs; omega) (B9.weak fun q hq=>qae hq);have eB:=gB.ex;generalize aj false m.next (obs false d b (((A.1.lay (ix 19 0 m.next 0)).lay (ix 20 0 0 0)).here A.1.ins.length) A.2)=B at *;have b2:=gB.mo;have b3:=gB.hi;have e1:(((A.1.lay (ix 19 0 m.next 0)).lay (ix 20 0 0 0)).here A.1.ins.length).regs=A.1.regs:=rfl;have hx:Ext B.1 (((B.1.back (((A.1.lay (ix 19 0 m.next 0)).lay (ix 20 0 0 0)).here A.1.ins.length).known).here (A.1.ins.length+1)).free false (m.next+1)):=((((Ext.refl _).back _).here _).free _ _)
    refine⟨rfl,rfl,?_,?_,?_,?_,fun p hp=>?_,fun e=>(gB.un ((A0 e).2 b (by simp))).trans (gA.un ((A0 e).2 a (by simp)))⟩
    ·show m.next+1≤B.1.regs; omega
    ·show m.regs≤B.1.regs; omega
    ·show B.1.regs≤_; omega
    ·refine(((gB.rt.back (((A.1.lay (ix 19 0 m.next 0)).lay (ix 20 0 0 0)).here A.1.ins.length).known).here (B2.ext (eB.back _))).weak fun q hq=>?_).free false _;rcases hq with⟨(h|h)|h,A4⟩
     ·exact .inl h
     ·exact absurd h A4
     ·exact .inr h
    ·rcases gB.op p hp with h|h
     ·exact(gA.op p h).imp id fun h=>h.ext (((((Ext.refl _).lay _).lay _).here _).trans (eB.trans hx))
     ·exact .inr (h.ext hx)
  ·have A7:m.next<m.reg.regs:=by show m.next<max m.regs (m.next+1); omega
   have gA:=A2 O a m.reg u (cf ha) (by simp) rfl A7 hR.reg;have B5:=A1 a (by simp);have B4:=A1 b (by simp);have C0:=A1 c (by simp);have A6:m.reg.regs=max m.regs (m.next+1):=rfl;rw[yf rfl];unfold chosen jz;simp only[ay,bx,ng];generalize aj false m.next (obs false d a m.reg u)=A at *;have a1:=gA.nx;have a2:=gA.mo;have a3:=gA.hi;have gj:=gA.rt.jump (x:=ix 19 0 m.next 0) (f19 ⟨h0,by omega⟩) rfl (by show(19:Int)≠29; decide);have oj:OpenAt (A.1.lay (ix 19 0 m.next 0)) A.1.ins.length:=OpenAt.lay A.1 rfl;have gB:=A2 (fun q=>O q∨q=A.1.ins.length) b (A.1.lay (ix 19 0 m.next 0)) A.2 hb (by simp) a1 (by show m.next<A.1.regs; omega) (gj.weak fun q hq=>zyi hq);have eB:=gB.ex;generalize aj false m.next (obs false d b (A.1.lay (ix 19 0 m.next 0)) A.2)=B at *;have b1:=gB.nx;have b2:=gB.mo;have b3:=gB.hi;have e1:(A.1.lay (ix 19 0 m.next 0)).regs=A.1.regs:=rfl;have gk:=(gB.rt.back (A.1.lay (ix 19 0 m.next 0)).known).jump (x:=ix 20 0 0 0) f20 rfl (by show(20:Int)≠29; decide);rw[ao] at gk;have ok:OpenAt ((B.1.back (A.1.lay (ix 19 0 m.next 0)).known).lay (ix 20 0 0 0)) B.1.ins.length:=OpenAt.lay (B.1.back _) rfl;have B8:=gk.here ((oj.ext eB).ext (((Ext.refl _).back _).lay _));have B1:=ok.ext ((Ext.refl _).here A.1.ins.length);have gC:=A2 (fun q=>O q∨q=B.1.ins.length) c (((B.1.back (A.1.lay (ix 19 0 m.next 0)).known).lay (ix 20 0 0 0)).here A.1.ins.length) B.2 hc (by simp) b1 (by show m.next<B.1.regs; omega) (B8.weak fun q hq=>qad hq);have eC:=gC.ex;generalize aj false m.next (obs false d c (((B.1.back (A.1.lay (ix 19 0 m.next 0)).known).lay (ix 20 0 0 0)).here A.1.ins.length) B.2)=C at *;have c2:=gC.mo;have c3:=gC.hi;have e2:(((B.1.back (A.1.lay (ix 19 0 m.next 0)).known).lay (ix 20 0 0 0)).here A.1.ins.length).regs=B.1.regs:=rfl;have hx:Ext C.1 (((C.1.back (((B.1.back (A.1.lay (ix 19 0 m.next 0)).known).lay (ix 20 0 0 0)).here A.1.ins.length).known).here B.1.ins.length).free false (m.next+1)):=((((Ext.refl _).back _).here _).free _ _)
   have hy:Ext B.1 (((B.1.back (A.1.lay (ix 19 0 m.next 0)).known).lay (ix 20 0 0 0)).here A.1.ins.length):=(((Ext.refl _).back _).lay _).here _;refine⟨rfl,rfl,?_,?_,?_,?_,fun p hp=>?_,fun e=>(gC.un ((A0 e).2 c (by simp))).trans ((gB.un ((A0 e).2 b (by simp))).trans (gA.un ((A0 e).2 a (by simp))))⟩
   ·show m.next+1≤C.1.regs; omega
   ·show m.regs≤C.1.regs; omega
   ·show C.1.regs≤_; omega
   ·refine(((gC.rt.back (((B.1.back (A.1.lay (ix 19 0 m.next 0)).known).lay (ix 20 0 0 0)).here A.1.ins.length).known).here (B1.ext (eC.back _))).weak fun q hq=>?_).free false _;rcases hq with⟨(h|h)|h,A4⟩
    ·exact .inl h
    ·exact absurd h A4
    ·exact .inr h
   ·rcases gC.op p hp with h|h
    ·rcases gB.op p h with h|h
     ·exact(gA.op p h).imp id fun h=>h.ext (((Ext.refl _).lay _).trans (eB.trans (hy.trans (eC.trans hx))))
     ·exact .inr (h.ext (hy.trans (eC.trans hx)))
    ·exact .inr (h.ext hx)
  ·rw[mj (by unfold ct at h1; show 6≤op∧op≤21∧op≠15∧op≠16; omega),iy (a:=a) (b:=b) (by simp[T.ks]) ay rfl bx rfl];have A8:=A1 a (by simp);have B6:=A1 b (by simp);have g:=ih a m u O Fl ha A8.1 (A5 a (by simp)) h0 hR;generalize obs false d a m u=o at *;have g0:=g.nx;have g1:=g.r;have g2:=g.lo;have g3:=g.mo;have g4:=g.hi;have k:=ih b o.2.1 o.2.2 O Fl hb B6.1 (A5 b (by simp)) (by omega) g.rt;have ek:=jg false d b o.2.1 o.2.2;generalize obs false d b o.2.1 o.2.2=p at *;have k1:=k.r;have k2:=k.lo;have k3:=k.mo;have k4:=k.hi;have A3:=ziu h1;rw[if_neg (by decide)];have hx:Ext p.2.1 ((p.2.1.lay ⟨ai op,o.1,o.1,p.1,0,txt0,0⟩).free false (m.next+1)):=((Ext.refl _).lay _).free _ _;refine⟨g1,rfl,?_,?_,?_,?_,fun q hq=>?_,fun e=>(k.un ((A0 e).2 b (by simp))).trans (g.un ((A0 e).2 a (by simp)))⟩
   ·show m.next+1≤p.2.1.regs; omega
   ·show m.regs≤p.2.1.regs; omega
   ·show p.2.1.regs≤_
    omega
   ·exact(k.rt.plain (qaf A3 ⟨by omega,by omega⟩ ⟨by omega,by omega⟩) (by show kx (ai op)=false; rcases A3 with e|e|e|e|e|e|e|e|e|e|e|e<;>rw[e]<;>decide) rfl (by show ai op≠29; omega)).free false _
   ·rcases k.op q hq with h|h
    ·exact(g.op q h).imp id fun h=>h.ext (ek.trans hx)
    ·exact .inr (h.ext hx)
end Gf
end
section
open Go.RowKit
namespace Sm
open Co Gen Dn Gf
theorem zda (sh:Bool)(v:Val)(m:Mk)(u:List Nat):m.next≤(au sh v m u).2.1.next:=by
 unfold au;split
 ·exact Int.le_refl _
 ·show m.next≤m.next+1; omega
theorem zo (sh:Bool)(d:Nat)(t:T)(m:Mk)(u:List Nat):Fz m.ins.length m.ins (obs sh d t m u).2.1:=zjb sh d t m u _ _ (fun p _=>rfl) (Nat.le_refl _)
theorem zdb (sh:Bool)(v:Val)(m:Mk)(u:List Nat):Fz m.ins.length m.ins (au sh v m u).2.1:=sg sh v u (fun p _=>rfl) (Nat.le_refl _)
section
variable {c:Cd}{E:Vm.Env}{sh:Bool}{G:Int→Prop}{m:Mk}{f:Int}{r:List Int}{u:List Nat}{d:Nat}
theorem ObSem.ahead {m1:Mk}{r1:List Int}{k1:Nat}{o:Ob}{ov:Option Int}(hs:Steps c E m.ins.length f r m1.ins.length f r1 k1)(hk:k1+m.ins.length≤m1.ins.length)(hp:∀ x,0≤x→x<m.next→Vm.reg r1 x=Vm.reg r x)(hn:m.next≤m1.next)(A3:m1.next≤o.2.1.next)
  (h:ObSem c E sh (Gn G m m1) m1 o f r1 ov):ObSem c E sh G m o f r ov:=by
 cases ov with
 |none=>exact Lost.ahead (m0:=m) h hs hk
 |some y=>
  obtain⟨k2,r2,s2,b2,g2,p2,v2,A0,A2⟩:=h;have hg:∀ x,Gn (Gn G m m1) m1 o.2.1 x→Gn G m o.2.1 x:=fun x hx=>by
   rcases hx with(hx|hx)|hx
   ·exact .inl hx
   ·exact .inr (by omega)
   ·exact .inr (by omega)
  exact⟨k1+k2,r2,hs.trans s2,by omega,g2,fun x hx A1=>by rw[p2 x hx (by omega),hp x hx A1],v2,A0.mono hg,hg _ A2⟩
theorem jj {m1:Mk}{r1:List Int}(h:Fine c E sh G m r)(hn:m.next≤m1.next)(hl:r1.length=256)(hk:KnOk sh E (Gn G m m1) m1.known r1):Fine c E sh (Gn G m m1) m1 r1:=⟨by have:=h.nx; omega,fun x hx=>by
 have:=h.nx;rcases hx with hx|hx
 ·have:=h.g x hx; omega
 ·omega,hl,hk⟩
theorem zep (hR:Gen.right c=true)(he:EnvOk E){q:Mk}{v:Val}{r1:List Int}{k1:Nat}{y:Int}{u':List Nat}(hv:1≤v.op∧v.op≤17)(h0:0≤m.next)(hs:Steps c E m.ins.length f r q.ins.length f r1 k1)(hb:k1+m.ins.length≤q.ins.length)(hl:r1.length=256)
  (hp:∀ x,0≤x→x<m.next→Vm.reg r1 x=Vm.reg r x) (hy:lu E v r1=some y) (ha:Ag c m.ins.length ((q.lay (v.ix m.next)).free false (m.next+1))):Got c E false G m (m.next,(q.lay (v.ix m.next)).free false (m.next+1),u') f r y:=by
 obtain⟨z,hz, -⟩:=ha q.ins.length (v.ix m.next) (by omega) (by rw[iu]; exact dy _ _);have hA:0≤m.next∧m.next<256:=(zad hR hz).1 (by
  show eg v.op=true
  unfold eg;simp only[Bool.and_eq_true,decide_eq_true_eq,Bool.or_eq_true];omega)
 have A0:((q.lay (v.ix m.next)).free false (m.next+1)).ins.length=q.ins.length+1:=by rw[df,ah]
 refine⟨k1+1,Vm.setReg r1 m.next y,?_,?_,tg hl,fun x hx A1=>?_,zl hl hA,(fun e=>by cases e),.inr ⟨Int.le_refl _,by show m.next<m.next+1; omega⟩⟩
 ·show Steps c E m.ins.length f r (((q.lay (v.ix m.next)).free false (m.next+1)).ins.length:Int) f _ _
  rw[A0];exact hs.trans (Steps.one hz (zmv he hv hy))
 ·show _≤((q.lay (v.ix m.next)).free false (m.next+1)).ins.length
  omega
 ·rw[pv h0 hx (by omega)]; exact hp x hx A1
theorem yc (hR:Gen.right c=true)(he:EnvOk E):∀ d,zfk c E sh f d:=by
 intro d;induction d with
 |zero=>intro t m u G r _ hd; have:=je t; omega
 |succ d ih=>
  intro t m u G r ht hd hf ha;obtain⟨op,n,s,ks⟩:=t;have A0:∀ k∈ks,k.depth≤d:=fun k hk=>by
   have h1:=em hk;rw[T.depth] at hd;omega
  rcases cy ht with h1|⟨rfl,h2⟩|⟨rfl,h2⟩|⟨h1,a,rfl,hA, -⟩|⟨h1,a,b,rfl,hA,hB⟩|⟨rfl,a,b,b2,rfl,hA,hB,hC⟩|⟨h1,a,b,rfl,hA,hB⟩
  ·rw[px (t:=.mk op n s ks) h1] at ha ⊢;rw[pl h1]
   have:=qj (f:=f) (u:=u) hR he (v:=⟨1,n,txt0,0,0⟩) ⟨by show(1:Int)≤1; omega,by show(1:Int)≤17; omega⟩ hf (fun h=>absurd rfl h.1) (fun h=>absurd rfl h.1.1) ha;rwa [show lu E ⟨1,n,txt0,0,0⟩ r=some n from if_pos rfl] at this
  ·rw[qx (t:=.mk 4 n s ks) rfl] at ha ⊢;rw[zhl]
   have:=qj (f:=f) (u:=u) hR he (v:=⟨2,n,s,0,0⟩) ⟨by show(1:Int)≤2; omega,by show(2:Int)≤17; omega⟩ hf (fun h=>absurd rfl h.2.1) (fun h=>absurd rfl h.1.2.1) ha;rwa [show lu E ⟨2,n,s,0,0⟩ r=E.feed s n from rfl] at this
  ·rw[tu (t:=.mk 5 n s ks) rfl] at ha ⊢;rw[zdz]
   have:=qj (f:=f) (u:=u) hR he (v:=⟨3,n,txt0,0,0⟩) ⟨by show(1:Int)≤3; omega,by show(3:Int)≤17; omega⟩ hf (fun h=>absurd rfl h.2.2) (fun h=>absurd rfl h.1.2.2) ha;rwa [show lu E ⟨3,n,txt0,0,0⟩ r=some (E.now n) from rfl] at this
  ·have A7:6≤op∧op≤21∧op≠15∧op≠16:=by omega
   obtain⟨o,ho⟩:∃ o,obs sh d a m u=o:=⟨_,rfl⟩
   have e:obs sh (d+1) (.mk op n s [a]) m u=if sh=true then au sh ⟨ai op,0,txt0,o.1,0⟩ o.2.1 o.2.2 else(o.1,(o.2.1.lay ⟨ai op,o.1,o.1,0,0,txt0,0⟩).free sh (m.next+1),o.2.2):=by
    rw[mj (t:=.mk op n s [a]) A7,iz (a:=a) (by simp[T.ks]) ay ho]; rfl
   rw[e] at ha ⊢;have hl:=bm sh d a m u;have hn:=jr sh d a m u hA (A0 a (by simp));have hs:=ih a m u G r hA (A0 a (by simp)) hf;rw[ho] at hl hs hn;have A8:ai op=4∨ai op=12:=h1.elim (fun h=>.inl (by rw[h]; rfl)) (fun h=>.inr (by rw[h]; rfl));have A4:∀ r,lu E ⟨ai op,0,txt0,o.1,0⟩ r=some (E.rk (ai op) (Vm.reg r o.1) 0):=fun r=>by
    unfold lu;simp only;rw[if_neg (by omega),if_neg (by omega),if_neg (by omega),if_pos A8]
   rw[rp h1];cases sh with
   |true=>
    rw[if_pos rfl] at ha ⊢;have g1:Ag c m.ins.length o.2.1:=ha.sub (Nat.le_refl _) fun p _ hp=>zdb true _ _ _ p hp;have hs:=hs g1;have hw:=od true ⟨ai op,0,txt0,o.1,0⟩ o.2.1 o.2.2;cases hv:aq E a with
    |none=>
     rw[hv] at hs;refine(show Lost c E m o.2.1 o.2.2 f r from hs).more hw fun p hp=>?_;unfold au;split
     ·exact hp
     ·show p∈(if ai op=2 then o.2.2++[o.2.1.ins.length] else o.2.2)
      rw[if_neg (by omega)]; exact hp
    |some x=>
     rw[hv] at hs;obtain⟨k1,r1,s1,b1,q1,p1,v1,A2,A1⟩:=hs
     have:=qj (f:=f) (u:=o.2.2) hR he (v:=⟨ai op,0,txt0,o.1,0⟩) (by show 1≤ai op∧ai op≤17; omega) (jj hf hn q1 A2) (fun _=>A1) (fun h=>absurd A8 (by have h1:=h.2.1; have h2:=h.2.2; exact fun h=>h.elim h1 h2)) (ha.sub (by omega) fun p _ _=>rfl);rw[A4,v1] at this;exact this.ahead s1 b1 p1 hn (zda _ _ _ _)
   |false=>
    rw[if_neg (by decide)] at ha ⊢;have e1:o.1=m.next:=by rw[←ho]; exact(zbk d a m u hA (A0 a (by simp))).1
    have g1:Ag c m.ins.length o.2.1:=ha.sub (Nat.le_refl _) fun p _ hp=>by rw[iu,dx _ _ hp]
    have hs:=hs g1;cases hv:aq E a with
    |none=>
     rw[hv] at hs;exact(show Lost c E m o.2.1 o.2.2 f r from hs).more (by show _≤((o.2.1.lay _).free false _).ins.length; rw[df,ah]; omega) fun p hp=>hp
    |some x=>
     rw[hv] at hs;obtain⟨k1,r1,s1,b1,q1,p1,v1,A2,A1⟩:=hs;have hy:=A4 r1;rw[v1] at hy;rw[e1] at hy ha ⊢;exact zep hR he (v:=⟨ai op,0,txt0,m.next,0⟩) (by show 1≤ai op∧ai op≤17; omega) hf.nx s1 b1 q1 p1 hy ha
  ·rcases h1 with rfl|rfl
   ·exact zxy hR he ih (cf hA) hB (A0 a (by simp)) (A0 b (by simp)) hf ha
   ·exact zyh hR he ih (cf hA) hB (A0 a (by simp)) (A0 b (by simp)) hf ha
  ·exact zyq hR he ih (cf hA) hB hC (A0 a (by simp)) (A0 b (by simp)) (A0 b2 (by simp)) hf ha
  ·have A7:6≤op∧op≤21∧op≠15∧op≠16:=by unfold ct at h1; omega
   obtain⟨o,ho⟩:∃ o,obs sh d a m u=o:=⟨_,rfl⟩
   obtain⟨q,hq⟩:∃ q,obs sh d b o.2.1 o.2.2=q:=⟨_,rfl⟩
   have e:obs sh (d+1) (.mk op n s [a,b]) m u=if sh=true then au sh ⟨ai op,0,txt0,o.1,q.1⟩ q.2.1 q.2.2 else(o.1,(q.2.1.lay ⟨ai op,o.1,o.1,q.1,0,txt0,0⟩).free sh (m.next+1),q.2.2):=by
    rw[mj (t:=.mk op n s [a,b]) A7,iy (a:=a) (b:=b) (by simp[T.ks]) ay ho bx hq]; rfl
   rw[e] at ha ⊢;have hl:=bm sh d a m u;have B4:=bm sh d b o.2.1 o.2.2;have hn:=jr sh d a m u hA (A0 a (by simp));have B3:=jr sh d b o.2.1 o.2.2 hB (A0 b (by simp));have hs:=ih a m u G r hA (A0 a (by simp)) hf;have kp:=zo sh d b o.2.1 o.2.2;have su:=zmf sh d b o.2.1 o.2.2;rw[ho] at hl hs hn;rw[hq] at B4 B3 kp su;have A8:=ziu h1;have A4:∀ r,lu E ⟨ai op,0,txt0,o.1,q.1⟩ r=some (E.rk (ai op) (Vm.reg r o.1) (Vm.reg r q.1)):=fun r=>by
    unfold lu;simp only;rw[if_neg (by omega),if_neg (by omega),if_neg (by omega),if_neg (by omega)]
   rw[rm h1]
   -- up to the operation
   have key:∀(hg:Ag c m.ins.length q.2.1),∀(F:Mk) (u':List Nat),q.2.1.ins.length≤F.ins.length→(∀ p∈q.2.2,p∈u') →
     ((aq E a=none∨(∃ x,aq E a=some x∧aq E b=none))∧Lost c E m F u' f r) ∨
     (∃ x y k r1,aq E a=some x∧aq E b=some y∧Steps c E m.ins.length f r q.2.1.ins.length f r1 k∧k+m.ins.length≤q.2.1.ins.length∧r1.length=256∧(∀ x,0≤x→x<m.next→Vm.reg r1 x=Vm.reg r x)∧Vm.reg r1 o.1=x∧Vm.reg r1 q.1=y∧KnOk sh E (Gn G m q.2.1) q.2.1.known r1∧Gn G m q.2.1 o.1∧Gn G m q.2.1 q.1):=by
    intro hg F u' hF hu;have g1:Ag c m.ins.length o.2.1:=hg.sub (Nat.le_refl _) fun p _ hp=>kp p hp;have g2:Ag c o.2.1.ins.length q.2.1:=hg.sub (by omega) fun p _ _=>rfl;have hs:=hs g1;cases hv:aq E a with
    |none=>
     rw[hv] at hs;exact .inl ⟨.inl rfl,(show Lost c E m o.2.1 o.2.2 f r from hs).more (by omega) fun p hp=>hu p (su p hp)⟩
    |some x=>
     rw[hv] at hs;obtain⟨k1,r1,s1,b1,q1,p1,v1,A2,A1⟩:=hs;have ff:=jj hf hn q1 A2;have A3:=ih b o.2.1 o.2.2 _ r1 hB (A0 b (by simp)) ff;rw[hq] at A3;have A3:=A3 g2;cases hw:aq E b with
     |none=>
      rw[hw] at A3;exact .inl ⟨.inr ⟨x,rfl,rfl⟩,((show Lost c E o.2.1 q.2.1 q.2.2 f r1 from A3).ahead (m0:=m) s1 b1).more hF hu⟩
     |some y=>
      rw[hw] at A3;obtain⟨k2,r2,s2,b2,q2,p2,v2,B1,A5⟩:=A3;have A9:∀ x,Gn (Gn G m o.2.1) o.2.1 q.2.1 x→Gn G m q.2.1 x:=fun x hx=>by
       rcases hx with(hx|hx)|hx
       ·exact .inl hx
       ·exact .inr (by omega)
       ·exact .inr (by omega)
      have B0:=ff.g _ A1;exact .inr ⟨x,y,k1+k2,r2,rfl,rfl,s1.trans s2,by omega,q2,fun x hx B2=>by rw[p2 x hx (by omega),p1 x hx B2],by rw[p2 _ B0.1 B0.2,v1],v2,B1.mono A9,A9 _ (.inl A1),A9 _ A5⟩
   cases sh with
   |true=>
    rw[if_pos rfl] at ha ⊢;have g1:Ag c m.ins.length q.2.1:=ha.sub (Nat.le_refl _) fun p _ hp=>zdb true _ _ _ p hp;have hw:=od true ⟨ai op,0,txt0,o.1,q.1⟩ q.2.1 q.2.2;have hu:∀ p∈q.2.2,p∈(au true ⟨ai op,0,txt0,o.1,q.1⟩ q.2.1 q.2.2).2.2:=fun p hp=>by
     unfold au;split
     ·exact hp
     ·show p∈(if ai op=2 then q.2.2++[q.2.1.ins.length] else q.2.2)
      rw[if_neg (by omega)]; exact hp
    rcases key g1 _ _ hw hu with⟨hv,hL⟩|⟨x,y,k1,r1,hx,hy,s1,b1,q1,p1,v1,v2,A2,A1,A5⟩
    ·rcases hv with hv|⟨x,hv,hw⟩
     ·rw[hv]; exact hL
     ·rw[hv,hw]; exact hL
    ·rw[hx,hy]
     have:=qj (f:=f) (u:=q.2.2) hR he (v:=⟨ai op,0,txt0,o.1,q.1⟩) (by show 1≤ai op∧ai op≤17; omega) (jj hf (by omega) q1 A2) (fun _=>A1) (fun _=>A5) (ha.sub (by omega) fun p _ _=>rfl);rw[A4,v1,v2] at this;exact this.ahead s1 b1 p1 (by omega) (zda _ _ _ _)
   |false=>
    rw[if_neg (by decide)] at ha ⊢;have e1:o.1=m.next:=by rw[←ho]; exact(zbk d a m u hA (A0 a (by simp))).1
    have g1:Ag c m.ins.length q.2.1:=ha.sub (Nat.le_refl _) fun p _ hp=>by rw[iu,dx _ _ hp]
    rcases key g1 _ _ (show q.2.1.ins.length≤((q.2.1.lay ⟨ai op,o.1,o.1,q.1,0,txt0,0⟩).free false (m.next+1)).ins.length by rw[df,ah]; omega) (fun p hp=>hp) with⟨hv,hL⟩|⟨x,y,k1,r1,hx,hy,s1,b1,q1,p1,v1,v2,A2,A1,A5⟩
    ·rcases hv with hv|⟨x,hv,hw⟩
     ·rw[hv]; exact hL
     ·rw[hv,hw]; exact hL
    ·rw[hx,hy];have A6:=A4 r1;rw[v1,v2] at A6;rw[e1] at A6 ha ⊢;exact zep hR he (v:=⟨ai op,0,txt0,m.next,q.1⟩) (by show 1≤ai op∧ai op≤17; omega) hf.nx s1 b1 q1 p1 A6 ha
end
end Sm
end
section
open Go.RowKit
namespace Sm
open Co Gen Dn Gf
/-! The waits that are laid. -/
def Js (m m':Mk):Prop:=∃ N,m'.jobs=m.jobs++N∧N.map Prod.fst=List.range' m.ws.length N.length∧m'.ws.length=m.ws.length+N.length
theorem Js.same {m m':Mk}(h:jw m'=jw m):Js m m':=⟨[],by rw[List.append_nil]; exact congrArg Prod.fst h,rfl,congrArg Prod.snd h⟩
theorem Js.trans {m m' m'':Mk}(h:Js m m')(k:Js m' m''):Js m m'':=by
 obtain⟨N,h1,h2,h3⟩:=h;obtain⟨K,k1,k2,k3⟩:=k;refine⟨N++K,by rw[k1,h1,List.append_assoc],?_,by rw[k3,h3,List.length_append]; omega⟩;rw[List.map_append,h2,k2,h3,List.length_append]
 have:=List.range'_append (s:=m.ws.length) (m:=N.length) (n:=K.length) (step:=1);rw[Nat.one_mul] at this;rw[this]
theorem Js.then {m m' m'':Mk}(h:Js m m')(k:jw m''=jw m'):Js m m'':=h.trans (Js.same k)
theorem Js.call (m:Mk)(t:T):Js m (m.call t):=⟨[(m.ws.length,t)],rfl,rfl,by show(m.ws++[_]).length=_; simp⟩
theorem ow (sh:Bool)(d:Nat):∀(t:T) (m:Mk),Js m (con sh d t m):=by
 induction d with
 |zero=>intro t m; exact Js.same rfl
 |succ d ih=>
  intro t m;have ho:∀(t:T) (m:Mk),Js m (obs sh d t m []).2.1:=fun t m=>Js.same (dr sh d t m []);have hl:∀ {m m':Mk} (x:Ix),Js m m'→Js m (m'.lay x):=fun x h=>h.then (bg _ _);rw[con];split
  ·exact Js.call m t
  ·refine Js.then ?_ (di _ sh _);split
   ·exact hl _ (Js.same rfl)
   split
   ·exact(hl _ (Js.same rfl)).trans (ih _ _)
   split
   ·exact(hl _ ((hl (m:=m) (m':=m.reg) _ (Js.same rfl)).trans (ih _ _))).trans (ih _ _)
   split
   ·simp only;exact(hl _ (ho _ _)).trans (ih _ _)
   split
   ·simp only;obtain⟨A,B,C,D,hA,hB,hC,hD,e⟩:=cm (con sh d) (obs sh d (t.kid 0) m []).1 t (obs sh d (t.kid 0) m []).2.1;rw[e];have gA:Js m A:=by rw[hA]; exact hl _ (ho _ _)
    have gB:Js m B:=by rw[hB]; exact gA.trans (ih _ _)
    have gC:Js m C:=by rw[hC]; exact gB.then rfl
    have gD:Js m D:=by rw[hD]; exact gC.trans (ih _ _)
    exact gD.then rfl
   ·exact Js.same rfl
theorem nk (sh:Bool)(d:Nat):∀(t:T) (m:Mk),m.next≤(con sh d t m).next:=by
 cases sh with
 |false=>
  intro t m;cases d with
  |zero=>exact Int.le_refl _
  |succ d=>
   rw[con];split
   ·exact Int.le_refl _
   ·exact Int.le_refl _
 |true=>
  induction d with
  |zero=>intro t m; exact Int.le_refl _
  |succ d ih=>
   intro t m;rw[con];split
   ·exact Int.le_refl _
   ·rw[show ∀ x:Mk,(x.free true m.next).next=x.next from fun x=>rfl];split
    ·exact Int.le_refl _
    split
    ·exact ih (t.kid 0) (m.lay (ix 24 0 0 0))
    split
    ·have h1:=ih (t.kid 0) (m.reg.lay (ix 25 m.next 0 0));have h2:=ih (t.kid 1) ((con true d (t.kid 0) (m.reg.lay (ix 25 m.next 0 0))).lay (ix 26 0 m.next 0));have e1:(m.reg.lay (ix 25 m.next 0 0)).next=m.next+1:=rfl;have e2:((con true d (t.kid 0) (m.reg.lay (ix 25 m.next 0 0))).lay (ix 26 0 m.next 0)).next=(con true d (t.kid 0) (m.reg.lay (ix 25 m.next 0 0))).next:=rfl;omega
    split
    ·simp only;have h1:=zdn d (t.kid 0) m [];have h2:=ih (t.kid 1) ((obs true d (t.kid 0) m []).2.1.lay (ix 23 0 (obs true d (t.kid 0) m []).1 0));have e2:((obs true d (t.kid 0) m []).2.1.lay (ix 23 0 (obs true d (t.kid 0) m []).1 0)).next=(obs true d (t.kid 0) m []).2.1.next:=rfl;omega
    split
    ·simp only;have h1:=zdn d (t.kid 0) m [];obtain⟨A,B,C,D,hA,hB,hC,hD,e⟩:=cm (con true d) (obs true d (t.kid 0) m []).1 t (obs true d (t.kid 0) m []).2.1;rw[e];have gA:A.next=(obs true d (t.kid 0) m []).2.1.next:=by rw[hA]; rfl
     have gB:A.next≤B.next:=by rw[hB]; exact ih _ _
     have gC:C.next=B.next:=by rw[hC]; rfl
     have gD:C.next≤D.next:=by rw[hD]; exact ih _ _
     show m.next≤D.next
     omega
    ·exact Int.le_refl _
theorem iw (sh:Bool)(d:Nat)(t:T)(m:Mk):Fz m.ins.length m.ins (con sh d t m):=zbx sh d t m _ _ (fun p _=>rfl) (Nat.le_refl _)
theorem ku (sh:Bool)(d:Nat)(t:T)(m:Mk):m.ins.length≤(con sh d t m).ins.length:=(kq sh d t m).2
/-! What waits and what it may cost. -/
inductive Cost (Q:Nat→T→Nat→Nat→Prop):List (Nat × T)→Nat→Nat→Prop
 |nil:Cost Q [] 0 0
 |cons {j:Nat} {t:T} {p1 p2 q1 q2:Nat} {N:List (Nat × T)}:Q j t p1 p2→Cost Q N q1 q2→Cost Q ((j,t)::N) (p1+q1) (p2+q2)
inductive Match (J:Nat→T→Nat→Nat→Prop):List (Int × Int)→List (T × Int)→Nat→Nat→Prop
 |nil:Match J [] [] 0 0
 |cons {j:Nat} {t:T} {f:Int} {p1 p2 q1 q2:Nat} {hs:List (Int × Int)} {ls:List (T × Int)}:J j t p1 p2→Match J hs ls q1 q2→Match J (((j:Int),f)::hs) ((t,f)::ls) (p1+q1) (p2+q2)
theorem Cost.split {Q:Nat→T→Nat→Nat→Prop}{N K:List (Nat × T)}:∀ {q1 q2:Nat},Cost Q (N++K) q1 q2→∃ a1 a2 b1 b2,Cost Q N a1 a2∧Cost Q K b1 b2∧q1=a1+b1∧q2=a2+b2:=by
 induction N with
 |nil=>intro q1 q2 h; exact⟨0,0,q1,q2,.nil,h,(Nat.zero_add _).symm,(Nat.zero_add _).symm⟩
 |cons x N ih=>
  intro q1 q2 h;rw[List.cons_append] at h;cases h with
  |cons h1 h2=>
   obtain⟨a1,a2,b1,b2,g1,g2,rfl,rfl⟩:=ih h2;exact⟨_,_,b1,b2,.cons h1 g1,g2,(Nat.add_assoc _ _ _).symm,(Nat.add_assoc _ _ _).symm⟩
theorem Cost.mono {Q Q':Nat→T→Nat→Nat→Prop}{N:List (Nat × T)}{q1 q2:Nat}(h:Cost Q N q1 q2):(∀ x∈N,∀ p1 p2,Q x.1 x.2 p1 p2→Q' x.1 x.2 p1 p2)→Cost Q' N q1 q2:=by
 induction h with
 |nil=>intro _; exact .nil
 |cons h1 h2 ih=>intro hx; exact .cons (hx (_,_) (List.mem_cons_self ..) _ _ h1) (ih fun x hm=>hx x (List.mem_cons_of_mem _ hm))
theorem Match.app {J:Nat→T→Nat→Nat→Prop}{hs hs':List (Int × Int)}{ls ls':List (T × Int)}{p1 p2 q1 q2:Nat}(h:Match J hs ls p1 p2)(h':Match J hs' ls' q1 q2):Match J (hs++hs') (ls++ls') (p1+q1) (p2+q2):=by
 induction h with
 |nil=>rw[Nat.zero_add,Nat.zero_add]; exact h'
 |cons h1 h2 ih=>rw[Nat.add_assoc,Nat.add_assoc]; exact .cons h1 ih
def jf (c:Cd)(E:Vm.Env)(J:Nat→T→Nat→Nat→Prop)(at':Int)(res:Int→R)(p1 p2:Nat):Prop:=
 ∀ f,∃ k hs a1 a2,Ends c E at' f Vm.zeros k hs (res f).2∧Match J hs (res f).1 a1 a2∧k≤p1∧a1≤p1∧a2≤p2
def CDone (c:Cd)(E:Vm.Env)(J:Nat→T→Nat→Nat→Prop)(sh:Bool)(G:Int→Prop)(m m':Mk)(q1 q2:Nat)(f:Int)(r:List Int)(res:R):Prop:=
 ∃ k hs f' r' a1 a2,Does c E m.ins.length f r m'.ins.length f' r' k hs res.2∧Match J hs res.1 a1 a2∧k+m.ins.length≤m'.ins.length+q1∧a1≤q1∧a2≤q2∧r'.length=256∧(∀ x,0≤x→x<m.next→Vm.reg r' x=Vm.reg r x)∧KnOk sh E (Gn G m m') m'.known r'
end Sm
end
section
open Go.RowKit
namespace Gf
open Co Gen Dn
structure CoRt (O Fl:Nat→Prop)(D:Nat)(m m':Mk):Prop where
 rt:Rt O Fl m'
 nx:m'.next=m.next
 mo:m.regs≤m'.regs
 hi:m'.regs≤max m.regs (m.next+D)
 ja:∀ x∈m'.jobs,x∈m.jobs∨x.2.ahead=false
theorem mn {m m':Mk}(h:jw m'=jw m):m'.jobs=m.jobs:=congrArg Prod.fst h
theorem ji (m:Mk)(sh:Bool)(r:Int):(m.free sh r).jobs=m.jobs:=mn (di m sh r)
theorem zme {n:Int}{s:ByteArray}(h:fields 24 n s=true):Led.isCur s=true:=by
 simp[fields] at h;exact h.1
theorem Rt.nil {O Fl:Nat→Prop}{m:Mk}(h:Rt (fun q=>O q∨q∈([]:List Nat)) Fl m):Rt O Fl m:=h.weak fun q hq=>hq.elim id (fun h=>by cases h)
theorem Rt.ornil {O Fl:Nat→Prop}{m:Mk}(h:Rt O Fl m):Rt (fun q=>O q∨q∈([]:List Nat)) Fl m:=h.weak fun q hq=>.inl hq
theorem zhe {O Fl:Nat→Prop}{con:T→Mk→Mk}{t:T}{m:Mk}{r:Int}{Da Db:Nat}(h:Rt O Fl m)(hr:0≤r∧r<m.regs)
  (ha:∀ O m,Rt O Fl m→Ext m (con (t.kid 1) m)∧(0≤m.next→CoRt O Fl Da m (con (t.kid 1) m))) (hb:∀ O m,Rt O Fl m→Ext m (con (t.kid 2) m)∧(0≤m.next→CoRt O Fl Db m (con (t.kid 2) m))) (h0:0≤m.next):
  CoRt O Fl (max Da Db) m (either con r t m):=by
 obtain⟨A,B,C,D,hA,hB,hC,hD,e⟩:=cm con r t m;have gA:Rt (fun q=>O q∨q=m.ins.length) Fl A:=by rw[hA]; exact h.jump (f19 hr) rfl (by show(19:Int)≠29; decide)
 have oA:OpenAt A m.ins.length:=by rw[hA]; exact OpenAt.lay m rfl
 have nA:A.next=m.next∧A.regs=m.regs∧A.jobs=m.jobs:=by rw[hA]; exact⟨rfl,rfl,rfl⟩
 obtain⟨eB,cB⟩:=ha _ _ gA;have cB:=cB (by omega);rw[←hB] at eB cB;have b1:=cB.nx;have b2:=cB.mo;have b3:=cB.hi;have gK:=(cB.rt.back A.known).jump (x:=ix 20 0 0 0) f20 rfl (by show(20:Int)≠29; decide);rw[ao] at gK;have oK:OpenAt ((B.back A.known).lay (ix 20 0 0 0)) B.ins.length:=OpenAt.lay (B.back A.known) rfl;have gC:Rt (fun q=>O q∨q=B.ins.length) Fl C:=by
  rw[hC];exact(gK.here (oA.ext ((eB.back _).lay _))).weak fun q hq=>by
   obtain⟨h1,h2⟩:=hq;rcases h1 with(h1|h1)|h1
   ·exact .inl h1
   ·exact absurd h1 h2
   ·exact .inr h1
 have oC:OpenAt C B.ins.length:=by rw[hC]; exact oK.ext ((Ext.refl _).here _)
 have nC:C.next=B.next∧C.regs=B.regs∧C.jobs=B.jobs:=by rw[hC]; exact⟨rfl,rfl,rfl⟩
 obtain⟨eD,cD⟩:=hb _ _ gC;have cD:=cD (by omega);rw[←hD] at eD cD;have d1:=cD.nx;have d2:=cD.mo;have d3:=cD.hi;rw[e];have A1:(B.back A.known).ins.length=B.ins.length:=rfl;rw[A1];refine⟨?_,?_,?_,?_,?_⟩
 ·exact((cD.rt.back C.known).here (oC.ext (eD.back _))).weak fun q hq=>hq.1.elim id fun h=>absurd h hq.2
 ·show D.next=_; omega
 ·show _≤D.regs; omega
 ·show D.regs≤_; omega
 ·intro x hx;have A0:x∈D.jobs:=hx;rcases cD.ja x A0 with h1|h1
  ·rw[nC.2.2] at h1;rcases cB.ja x h1 with h2|h2
   ·rw[nA.2.2] at h2; exact .inl h2
   ·exact .inr h2
  ·exact .inr h1
theorem zyv (d:Nat):∀(t:T) (m:Mk) (O Fl:Nat→Prop),t.letter=99→t.depth≤d→t.ahead=false→0≤m.next→Rt O Fl m→CoRt O Fl t.depth m (con false d t m):=by
 induction d with
 |zero=>intro t m O Fl _ hd; have:=je t; omega
 |succ d ih=>
  intro t m O Fl hx hd A6 h0 h;cases hw:bp t with
  |true=>
   rw[ns hw];refine⟨h.call t,rfl,Int.le_refl _,?_,fun x hx=>?_⟩
   ·show m.regs≤_; omega
   ·rcases List.mem_append.1 (show x∈m.jobs++[(m.ws.length,t)] from hx) with h1|h1
    ·exact .inl h1
    ·rw[List.mem_singleton] at h1; subst h1; exact .inr A6
  |false=>
   obtain⟨op,n,s,ks⟩:=t;obtain⟨-,A1⟩:=zan A6;have A0:∀ k∈ks,k.depth≤d∧k.depth+1≤(T.mk op n s ks).depth:=fun k hk=>by
    have h1:=em hk;rw[zak] at hd ⊢;omega
   have hD:=je (T.mk op n s ks);obtain⟨w1,w2,w3,w4⟩:=mx hw;rcases bz hx with(⟨rfl,rfl⟩|⟨rfl,rfl⟩)|⟨h1,a,rfl,ha⟩|⟨rfl,o,a,rfl,ho,ha⟩|⟨h1,a,b,rfl,ha,hb⟩|⟨rfl,o,a,b,rfl,ho,ha,hb⟩|⟨rfl,o,a,rfl,ho,ha⟩
   ·rw[nj hw rfl];exact⟨h.free false _,rfl,Int.le_refl _,by show m.regs≤_; omega,fun x hx=>.inl (by rw[ji] at hx; exact hx)⟩
   ·rw[qf hw rfl];have hs:=zme (letter_inv hx (by decide) (by decide)).2;exact⟨(h.plain (x:=⟨27,0,0,0,0,s,0⟩) (f27 hs) rfl rfl (by show(27:Int)≠29; decide)).free false _,rfl,Int.le_refl _,by show m.regs≤_; omega,fun x hx=>.inl (by rw[ji] at hx; exact hx)⟩
   ·rcases h1 with rfl|rfl
    ·rw[nr hw rfl,ay];have A2:=A0 a (by simp);have g:=ih a (m.lay (ix 24 0 0 0)) O Fl ha A2.1 (A1 a (by simp)) h0 (h.plain f24 rfl rfl (by show(24:Int)≠29; decide));have g2:=g.mo;have g3:=g.hi;have e1:(m.lay (ix 24 0 0 0)).regs=m.regs∧(m.lay (ix 24 0 0 0)).next=m.next:=⟨rfl,rfl⟩
     exact⟨g.rt.free false _,rfl,by rw[li]; omega,by rw[li]; omega,fun x hx=>g.ja x (by rw[ji] at hx; exact hx)⟩
    ·exact absurd rfl w1
   ·rw[lj hw rfl,ay,bx];have A2:=A0 a (by simp);have A4:=A0 o (by simp);have go:=zbi d o m [] O Fl (dc ho) A4.1 (A1 o (by simp)) h0 h.ornil;have A3:=go.un (w4 (.inl rfl));have gj:=mn (dr false d o m []);generalize obs false d o m []=A at *;have a1:=go.r;have a2:=go.nx;have a3:=go.lo;have a4:=go.mo;have a5:=go.hi;have gr:=go.rt;rw[A3] at gr;have g:=ih a (A.2.1.lay (ix 23 0 A.1 0)) O Fl ha A2.1 (A1 a (by simp)) (by show 0≤A.2.1.next; omega) (gr.nil.plain (f23 ⟨by omega,by omega⟩) rfl rfl (by show(23:Int)≠29; decide));have g2:=g.mo;have g3:=g.hi;have e1:(A.2.1.lay (ix 23 0 A.1 0)).regs=A.2.1.regs∧(A.2.1.lay (ix 23 0 A.1 0)).next=A.2.1.next∧(A.2.1.lay (ix 23 0 A.1 0)).jobs=A.2.1.jobs:=⟨rfl,rfl,rfl⟩
    exact⟨g.rt.free false _,rfl,by rw[li]; omega,by rw[li]; omega,fun x hx=>by
     rw[ji] at hx;rcases g.ja x hx with h1|h1
     ·rw[e1.2.2,gj] at h1; exact .inl h1
     ·exact .inr h1⟩
   ·rcases h1 with rfl|rfl
    ·rw[nt hw rfl,ay,bx];have A2:=A0 a (by simp);have A5:=A0 b (by simp);have hr:m.next<m.reg.regs:=by show m.next<max m.regs (m.next+1); omega
     have A7:m.reg.regs=max m.regs (m.next+1):=rfl;have g:=ih a (m.reg.lay (ix 25 m.next 0 0)) O Fl ha A2.1 (A1 a (by simp)) (by show 0≤m.next+1; omega) (h.reg.plain (f25 ⟨h0,hr⟩) rfl rfl (by show(25:Int)≠29; decide));have e1:(m.reg.lay (ix 25 m.next 0 0)).regs=m.reg.regs∧(m.reg.lay (ix 25 m.next 0 0)).next=m.next+1∧(m.reg.lay (ix 25 m.next 0 0)).jobs=m.jobs:=⟨rfl,rfl,rfl⟩
     generalize con false d a (m.reg.lay (ix 25 m.next 0 0))=A at *;have a1:=g.nx;have a2:=g.mo;have a3:=g.hi;have k:=ih b (A.lay (ix 26 0 m.next 0)) O Fl hb A5.1 (A1 b (by simp)) (by show 0≤A.next; omega) (g.rt.plain (f26 ⟨h0,by omega⟩) rfl rfl (by show(26:Int)≠29; decide));have k2:=k.mo;have k3:=k.hi;have e2:(A.lay (ix 26 0 m.next 0)).regs=A.regs∧(A.lay (ix 26 0 m.next 0)).next=A.next∧(A.lay (ix 26 0 m.next 0)).jobs=A.jobs:=⟨rfl,rfl,rfl⟩
     exact⟨k.rt.free false _,rfl,by rw[li]; omega,by rw[li]; omega,fun x hx=>by
      rw[ji] at hx;rcases k.ja x hx with h1|h1
      ·rw[e2.2.2] at h1;rcases g.ja x h1 with h2|h2
       ·rw[e1.2.2] at h2; exact .inl h2
       ·exact .inr h2
      ·exact .inr h1⟩
    ·exact absurd rfl w3
   ·rw[ss hw rfl,ay];have A2:=A0 a (by simp);have A5:=A0 b (by simp);have A4:=A0 o (by simp);have go:=zbi d o m [] O Fl (cf ho) A4.1 (A1 o (by simp)) h0 h.ornil;have A3:=go.un (w4 (.inr rfl));have gj:=mn (dr false d o m []);generalize obs false d o m []=A at *;have a1:=go.r;have a2:=go.nx;have a3:=go.lo;have a4:=go.mo;have a5:=go.hi;have gr:=go.rt;rw[A3] at gr;have g:=zhe (con:=con false d) (t:=T.mk 28 n s [o,a,b]) (r:=A.1) (Da:=a.depth) (Db:=b.depth) gr.nil ⟨by omega,by omega⟩
     (fun O m h=>⟨fw false d _ m,fun h0=>by rw[bx]; exact ih a m O Fl ha A2.1 (A1 a (by simp)) h0 h⟩) (fun O m h=>⟨fw false d _ m,fun h0=>by rw[ng]; exact ih b m O Fl hb A5.1 (A1 b (by simp)) h0 h⟩) (by omega)
    have g2:=g.mo;have g3:=g.hi;exact⟨g.rt.free false _,rfl,by rw[li]; omega,by rw[li]; omega,fun x hx=>by
     rw[ji] at hx;rcases g.ja x hx with h1|h1
     ·rw[gj] at h1; exact .inl h1
     ·exact .inr h1⟩
   ·exact absurd rfl w2
end Gf
end
section
open Go.RowKit
namespace Sm
open Co Gen Dn Gf
def vp (c:Cd)(E:Vm.Env)(J:Nat→T→Nat→Nat→Prop)(j:Nat)(t:T)(p1 p2:Nat):Prop:=J j t p1 p2∧jf c E J (dq c (j:Int)) (den E t) p1 p2
def zsk (c:Cd)(E:Vm.Env)(J:Nat→T→Nat→Nat→Prop)(sh:Bool)(d:Nat):Prop:=∀(t:T) (m:Mk) (N:List (Nat × T)) (q1 q2:Nat) (G:Int→Prop) (r:List Int) (f:Int),t.letter=99→t.depth≤d→Fine c E sh G m r→Ag c m.ins.length (con sh d t m) →
 (con sh d t m).jobs=m.jobs++N→Cost (vp c E J) N q1 q2→CDone c E J sh G m (con sh d t m) q1 q2 f r (den E t f)
section
variable {c:Cd}{E:Vm.Env}{J:Nat→T→Nat→Nat→Prop}{sh:Bool}{G:Int→Prop}{m:Mk}{f:Int}{r:List Int}{d:Nat}{N:List (Nat × T)}{q1 q2:Nat}{res:R}
theorem CDone.free {m':Mk}(h:CDone c E J sh G m m' q1 q2 f r res):CDone c E J sh G m (m'.free sh m.next) q1 q2 f r res:=by
 obtain⟨k,hs,f',r',a1,a2,h1,h2,h3,h4,h5,h6,h7,h8⟩:=h;refine⟨k,hs,f',r',a1,a2,by rw[df]; exact h1,h2,by rw[df]; exact h3,h4,h5,h6,h7,fun e=>?_⟩;subst e;exact h8 rfl
theorem CDone.ahead {m1 m':Mk}{k0:Nat}{f1:Int}{r1:List Int}(hs:Steps c E m.ins.length f r m1.ins.length f1 r1 k0)(hk:k0+m.ins.length≤m1.ins.length)(hp:∀ x,0≤x→x<m.next→Vm.reg r1 x=Vm.reg r x)(hn:m.next≤m1.next)(A1:m1.next≤m'.next)
  (h:CDone c E J sh (Gn G m m1) m1 m' q1 q2 f1 r1 res):CDone c E J sh G m m' q1 q2 f r res:=by
 obtain⟨k,hs',f',r',a1,a2,g1,g2,g3,g4,g5,g6,g7,g8⟩:=h;refine⟨k0+k,hs',f',r',a1,a2,hs.does g1,g2,by omega,g4,g5,g6,fun x hx A0=>by rw[g7 x hx (by omega),hp x hx A0],g8.mono fun x hx=>?_⟩;rcases hx with(hx|hx)|hx
 ·exact .inl hx
 ·exact .inr (by omega)
 ·exact .inr (by omega)
theorem zhq {b z:Int}{p:Int}:Vm.act c E (gx (ix 23 0 b 0) z) p f r=.next (p+1) (E.mul f (Vm.reg r b)) r:=rfl
theorem zwa {z:Int}{p:Int}:Vm.act c E (gx (ix 24 0 0 0) z) p f r=.next (p+1) (E.neg f) r:=rfl
theorem zvv {a z:Int}{p:Int}:Vm.act c E (gx (ix 25 a 0 0) z) p f r=.next (p+1) f (Vm.setReg r a f):=rfl
theorem zvz {b z:Int}{p:Int}:Vm.act c E (gx (ix 26 0 b 0) z) p f r=.next (p+1) (E.clamp (Vm.reg r b)) r:=rfl
theorem sn {m1:Mk}(h:Fine c E sh G m r)(hn:m.next≤m1.next)(hk:m1.known=m.known):Fine c E sh G m1 r:=⟨by have:=h.nx; omega,fun x hx=>by have:=h.g x hx; omega,h.len,by rw[hk]; exact h.kn⟩
theorem zdr {m m1 m2:Mk}(h:Js m m1)(k:Js m1 m2)(hN:m2.jobs=m.jobs++N):∃ A B,m1.jobs=m.jobs++A∧m2.jobs=m1.jobs++B∧N=A++B:=by
 obtain⟨A,h1, -, -⟩:=h;obtain⟨B,k1, -, -⟩:=k;refine⟨A,B,h1,k1,?_⟩;rw[k1,h1,List.append_assoc] at hN;exact(List.append_cancel_left hN).symm
theorem zex (IH:zsk c E J sh d){n:Int}{s:ByteArray}{o a b:T}{rg:Int}(ha:a.letter=99)(hb:b.letter=99)(da:a.depth≤d)(db:b.depth≤d)(hf:Fine c E sh G m r)(A0:Ag c m.ins.length (either (con sh d) rg (.mk 28 n s [o,a,b]) m))
  (hN:(either (con sh d) rg (.mk 28 n s [o,a,b]) m).jobs=m.jobs++N) (hc:Cost (vp c E J) N q1 q2):CDone c E J sh G m (either (con sh d) rg (.mk 28 n s [o,a,b]) m) q1 q2 f r (if Vm.reg r rg=0 then den E b f else den E a f):=by
 obtain⟨A,B,C,D,hA,hB,hC,hD,e⟩:=cm (con sh d) rg (.mk 28 n s [o,a,b]) m;rw[bx] at hB;rw[ng] at hD;obtain⟨F,hF⟩:∃ F,(D.back C.known).here B.ins.length=F:=⟨_,rfl⟩
 rw[show either (con sh d) rg (.mk 28 n s [o,a,b]) m=F from e.trans hF] at A0 hN ⊢;have lA:A.ins.length=m.ins.length+1:=by rw[hA,ah]
 have lB:A.ins.length≤B.ins.length:=by rw[hB]; exact ku ..
 have lC:C.ins.length=B.ins.length+1:=by rw[hC,ak,ah,ao]
 have lD:C.ins.length≤D.ins.length:=by rw[hD]; exact ku ..
 have lF:F.ins.length=D.ins.length:=by rw[←hF,ak,ao]
 have kB:Fz A.ins.length A.ins B:=by rw[hB]; exact iw sh d a A
 have kD:Fz C.ins.length C.ins D:=by rw[hD]; exact iw sh d b C
 have iF:∀ p,p≠B.ins.length→F.ins[p]? = D.ins[p]?:=fun p hp=>by rw[←hF,gp _ (Ne.symm hp)]; rfl
 have iC:∀ p,p<B.ins.length→p≠m.ins.length→C.ins[p]? = B.ins[p]?:=fun p hp A2=>by rw[hC,gp _ (Ne.symm A2),dx _ _ (by rw[ao]; exact hp)]; rfl
 have jF:F.ins[m.ins.length]? = some (gx (ix 19 0 rg 0) C.ins.length):=by
  rw[iF _ (by omega),kD _ (by omega)]
  have:=mp ((B.back A.known).lay (ix 20 0 0 0)) (q:=m.ins.length) (x:=ix 19 0 rg 0) (by
   rw[dx _ _ (by rw[ao]; omega)];show B.ins[_]? = _
   rw[kB _ (by omega),hA]; exact dy _ _)
  rw[←hC] at this;rw[this,ah,ao,lC]
 have jG:F.ins[B.ins.length]? = some (gx (ix 20 0 0 0) D.ins.length):=by
  rw[←hF];refine mp (D.back C.known) ?_;show D.ins[_]? = _
  rw[kD _ (by omega),hC,gp _ (by omega)];exact dy (B.back A.known) (ix 20 0 0 0)
 have gB:Ag c A.ins.length B:=A0.sub (by omega) fun p hp A2=>by rw[iF p (by omega),kD p (by omega),iC p A2 (by omega)]
 have gD:Ag c C.ins.length D:=A0.sub (by omega) fun p hp A2=>iF p (by omega);have jump:=A0.get (Nat.le_refl _) jF (show(19:Int)≠2 by decide);have jump2:=A0.get (by omega) jG (show(20:Int)≠2 by decide);have nA:A.next=m.next:=by rw[hA]; rfl
 have nB:A.next≤B.next:=by rw[hB]; exact nk ..
 have nC:C.next=B.next:=by rw[hC]; rfl
 have nD:C.next≤D.next:=by rw[hD]; exact nk ..
 have nF:F.next=D.next:=by rw[←hF]; rfl
 have eA:A.known=m.known:=by rw[hA]; rfl
 have eC:C.known=m.known:=by rw[hC]; exact eA
 have eF:F.known=m.known:=by rw[←hF]; exact eC
 have jA:Js m A:=by rw[hA]; exact Js.same rfl
 have jB:Js A B:=by rw[hB]; exact ow ..
 have jC:Js B C:=by rw[hC]; exact Js.same rfl
 have jD:Js C D:=by rw[hD]; exact ow ..
 obtain⟨X,Y,hX,hY,rfl⟩:=zdr ((jA.trans jB).trans jC) (show Js C F from jD.then (by rw[←hF]; rfl)) hN;have A7:B.jobs=A.jobs++X:=by
  have e1:C.jobs=B.jobs:=by rw[hC]; rfl
  have e2:A.jobs=m.jobs:=by rw[hA]; rfl
  rw[←e1,e2]; exact hX
 have A6:D.jobs=C.jobs++Y:=by rw[←hY,←hF]; rfl
 obtain⟨x1,x2,y1,y2,cX,cY,rfl,rfl⟩:=hc.split;have A3:∀ r',(∀ x,0≤x→x<m.next→Vm.reg r' x=Vm.reg r x)→KnOk sh E (Gn G m F) F.known r':=fun r' hp=>by
  rw[eF];exact(hf.kn.regs fun x hx=>hp x (hf.g x hx).1 (hf.g x hx).2).mono fun x hx=>.inl hx
 have hj:=qp (E:=E) (f:=f) (r:=r) jump;by_cases hy:Vm.reg r rg=0
 ·rw[if_pos hy] at hj ⊢
  have:=IH b C Y y1 y2 G r f hb db (sn hf (by omega) eC) (by rw[←hD]; exact gD) (by rw[←hD]; exact A6) cY;rw[←hD] at this;obtain⟨k,hs,f',r',a1,a2,g1,g2,g3,g4,g5,g6,g7,g8⟩:=this;have A1:∀ x,0≤x→x<m.next→Vm.reg r' x=Vm.reg r x:=fun x hx A4=>g7 x hx (by omega);exact⟨1+k,hs,f',r',a1,a2,by rw[lF]; exact hj.does g1,g2,by omega,by omega,by omega,g6,A1,A3 r' A1⟩
 ·rw[if_neg hy] at hj ⊢;rw[←lA] at hj
  have:=IH a A X x1 x2 G r f ha da (sn hf (by omega) eA) (by rw[←hB]; exact gB) (by rw[←hB]; exact A7) cX;rw[←hB] at this;obtain⟨k,hs,f',r',a1,a2,g1,g2,g3,g4,g5,g6,g7,g8⟩:=this;have A1:∀ x,0≤x→x<m.next→Vm.reg r' x=Vm.reg r x:=fun x hx A4=>g7 x hx (by omega);have A5:=zfv (E:=E) (f:=f') (r:=r') jump2;exact⟨1+k+1,hs,f',r',a1,a2,by rw[lF]; exact(hj.does g1).steps A5,g2,by omega,by omega,by omega,g6,A1,A3 r' A1⟩
theorem rl (hR:Gen.right c=true)(he:EnvOk E):∀ d,zsk c E J sh d:=by
 intro d;induction d with
 |zero=>intro t m N q1 q2 G r f _ hd; have:=je t; omega
 |succ d ih=>
  intro t m N q1 q2 G r f hx hd hf A0 hN hc;cases hw:bp t with
  |true=>
   rw[ns hw] at A0 hN ⊢;obtain rfl:N=[(m.ws.length,t)]:=(List.append_cancel_left (show m.jobs++[(m.ws.length,t)]=m.jobs++N from hN)).symm;cases hc with
   |cons h1 h2=>
    cases h2;obtain⟨hJ,hS⟩:=h1;obtain⟨k,hs,a1,a2,g1,g2,g3,g4,g5⟩:=hS f;have A4:(m.call t).ins[m.ins.length]? = some (ix 29 0 0 m.ws.length):=by show(m.ins++[_])[_]? = _; simp
    have A1:=A0.get (Nat.le_refl _) A4 (show(29:Int)≠2 by decide);have hD:=Does.call (E:=E) (f:=f) (r:=r) A1 (show(29:Int)=29 from rfl) g1;have hl:(m.call t).ins.length=m.ins.length+1:=by show(m.ins++[_]).length=_; simp
    exact⟨1+k,hs,f,r,a1,a2,by rw[hl]; exact hD,g2,by omega,by omega,by omega,hf.len,fun _ _ _=>rfl,hf.kn.mono fun x hx=>.inl hx⟩
  |false=>
   obtain⟨op,n,s,ks⟩:=t;have A3:∀ k∈ks,k.depth≤d:=fun k hk=>by
    have h1:=em hk;rw[T.depth] at hd;omega
   obtain⟨w1,w2,w3,w4⟩:=mx hw;rcases bz hx with(⟨rfl,rfl⟩|⟨rfl,rfl⟩)|⟨h1,a,rfl,ha⟩|⟨rfl,o,a,rfl,ho,ha⟩|⟨h1,a,b,rfl,ha,hb⟩|⟨rfl,o,a,b,rfl,ho,ha,hb⟩|⟨rfl,o,a,rfl,ho,ha⟩
   ·rw[nj hw rfl] at A0 hN ⊢;rw[zjy];refine CDone.free ⟨0,[],f,r,0,0,Does.refl,.nil,by omega,Nat.zero_le _,Nat.zero_le _,hf.len,fun _ _ _=>rfl,hf.kn.mono fun x hx=>.inl hx⟩
   ·rw[qf hw rfl] at A0 hN ⊢;rw[zrp];refine CDone.free ?_;have A4:(m.lay ⟨27,0,0,0,0,s,0⟩).ins[m.ins.length]? = some ⟨27,0,0,0,0,s,0⟩:=dy _ _;have A1:=A0.get (Nat.le_refl _) (by rw[iu]; exact A4) (show(27:Int)≠2 by decide);have hD:=Does.pay (E:=E) (f:=f) (r:=r) A1 (show(27:Int)=27 from rfl);have hl:(m.lay ⟨27,0,0,0,0,s,0⟩).ins.length=m.ins.length+1:=ah _ _;exact⟨1,[],f,r,0,0,by show Does c E _ f r ((m.lay ⟨27,0,0,0,0,s,0⟩).ins.length:Int) f r 1 _ _; rw[hl]; exact hD,.nil,by show _≤(m.lay ⟨27,0,0,0,0,s,0⟩).ins.length+q1; omega,Nat.zero_le _,Nat.zero_le _,hf.len,fun _ _ _=>rfl,hf.kn.mono fun x hx=>.inl hx⟩
   ·rcases h1 with rfl|rfl
    ·rw[nr hw rfl,ay] at A0 hN ⊢;rw[vg];refine CDone.free ?_;replace A0:=A0.same (iu _ _ _);rw[ji] at hN;obtain⟨A,hA⟩:∃ A,m.lay (ix 24 0 0 0)=A:=⟨_,rfl⟩
     rw[hA] at A0 hN ⊢;have lA:A.ins.length=m.ins.length+1:=by rw[←hA,ah]
     have A4:(con sh d a A).ins[m.ins.length]? = some (ix 24 0 0 0):=by rw[iw sh d a A _ (by omega),←hA]; exact dy _ _
     have A1:=A0.get (Nat.le_refl _) A4 (show(24:Int)≠2 by decide);have hs:Steps c E m.ins.length f r A.ins.length (E.neg f) r 1:=by rw[lA]; exact Steps.one A1 (zwa (z:=0))
     have nA:A.next=m.next:=by rw[←hA]; rfl
     have eA:A.known=m.known:=by rw[←hA]; rfl
     have ff:Fine c E sh (Gn G m A) A r:=jj hf (by omega) hf.len (by rw[eA]; exact hf.kn.mono fun x hx=>.inl hx)
     have:=ih a A N q1 q2 _ r (E.neg f) ha (A3 a (by simp)) ff (A0.sub (by omega) fun p _ _=>rfl) (by rw[hN,←hA]; rfl) hc;exact CDone.ahead hs (by omega) (fun _ _ _=>rfl) (by omega) (nk ..) this
    ·exact absurd rfl w1
   ·rw[lj hw rfl,ay,bx] at A0 hN ⊢;have A8:cr o=false:=w4 (.inl rfl);obtain⟨v,hv⟩:=zhk E o (dc ho) A8;rw[yt,hv];refine CDone.free ?_;replace A0:=A0.same (iu _ _ _);rw[ji] at hN;obtain⟨O,hO⟩:∃ O,obs sh d o m []=O:=⟨_,rfl⟩
    rw[hO] at A0 hN ⊢;obtain⟨A,hA⟩:∃ A,O.2.1.lay (ix 23 0 O.1 0)=A:=⟨_,rfl⟩
    rw[hA] at A0 hN ⊢;have lO:=bm sh d o m [];have nO:=jr sh d o m [] (dc ho) (A3 o (by simp));rw[hO] at lO nO;have lA:A.ins.length=O.2.1.ins.length+1:=by rw[←hA,ah]
    have iA:∀ p,p<O.2.1.ins.length→(con sh d a A).ins[p]? = O.2.1.ins[p]?:=fun p hp=>by rw[iw sh d a A _ (by omega),←hA,dx _ _ hp]
    have gO:Ag c m.ins.length O.2.1:=A0.sub (Nat.le_refl _) fun p _ hp=>iA p hp;have hs:=yc (f:=f) hR he d o m [] G r (dc ho) (A3 o (by simp)) hf (by rw[hO]; exact gO);rw[hO,hv] at hs;obtain⟨k1,r1,s1,b1,g1,p1,v1,A6,B3⟩:=hs;have A4:(con sh d a A).ins[O.2.1.ins.length]? = some (ix 23 0 O.1 0):=by rw[iw sh d a A _ (by omega),←hA]; exact dy _ _
    have A1:=A0.get lO A4 (show(23:Int)≠2 by decide);have s2:Steps c E m.ins.length f r A.ins.length (E.mul f v) r1 (k1+1):=by
     rw[lA,←v1];exact s1.trans (Steps.one A1 (zhq (z:=0)))
    have nA:A.next=O.2.1.next:=by rw[←hA]; rfl
    have eA:A.known=O.2.1.known:=by rw[←hA]; rfl
    have ff:Fine c E sh (Gn G m A) A r1:=jj hf (by omega) g1 (by rw[eA]; exact A6.mono fun x hx=>by unfold Gn at hx ⊢; rw[nA]; exact hx)
    have:=ih a A N q1 q2 _ r1 (E.mul f v) ha (A3 a (by simp)) ff (A0.sub (by omega) fun p _ _=>rfl) (by
     have e1:A.jobs=m.jobs:=by
      have:=congrArg Prod.fst (dr sh d o m []);rw[hO] at this;rw[←hA]; exact this
     rw[hN,e1]) hc
    exact CDone.ahead s2 (by omega) p1 (by omega) (nk ..) this
   ·rcases h1 with rfl|rfl
    ·rw[nt hw rfl,ay,bx] at A0 hN ⊢;rw[yp];refine CDone.free ?_;replace A0:=A0.same (iu _ _ _);rw[ji] at hN;obtain⟨A,hA⟩:∃ A,m.reg.lay (ix 25 m.next 0 0)=A:=⟨_,rfl⟩
     rw[hA] at A0 hN ⊢;obtain⟨B,hB⟩:∃ B,con sh d a A=B:=⟨_,rfl⟩
     rw[hB] at A0 hN ⊢;obtain⟨C,hC⟩:∃ C,B.lay (ix 26 0 m.next 0)=C:=⟨_,rfl⟩
     rw[hC] at A0 hN ⊢;have lA:A.ins.length=m.ins.length+1:=by rw[←hA,ah]; rfl
     have lB:A.ins.length≤B.ins.length:=by rw[←hB]; exact ku ..
     have lC:C.ins.length=B.ins.length+1:=by rw[←hC,ah]
     have lD:=ku sh d b C;have kB:Fz A.ins.length A.ins B:=by rw[←hB]; exact iw sh d a A
     have kD:=iw sh d b C;have iC:∀ p,p<B.ins.length→(con sh d b C).ins[p]? = B.ins[p]?:=fun p hp=>by rw[kD _ (by omega),←hC,dx _ _ hp]
     have B0:(con sh d b C).ins[m.ins.length]? = some (ix 25 m.next 0 0):=by rw[iC _ (by omega),kB _ (by omega),←hA]; exact dy m.reg _
     have A9:(con sh d b C).ins[B.ins.length]? = some (ix 26 0 m.next 0):=by rw[kD _ (by omega),←hC]; exact dy _ _
     have A5:=A0.get (Nat.le_refl _) B0 (show(25:Int)≠2 by decide);have A7:=A0.get (by omega) A9 (show(26:Int)≠2 by decide);have A2:0≤m.next∧m.next<256:=(zad hR A5).1 rfl;have nA:A.next=m.next+1:=by rw[←hA]; rfl
     have nB:A.next≤B.next:=by rw[←hB]; exact nk ..
     have nC:C.next=B.next:=by rw[←hC]; rfl
     have nD:=nk sh d b C;have eA:A.known=m.known:=by rw[←hA]; rfl
     have eC:C.known=B.known:=by rw[←hC]; rfl
     obtain⟨X,Y,hX,hY,rfl⟩:=zdr (m:=m) (m1:=B) (m2:=con sh d b C) ((show Js m A from by rw[←hA]; exact Js.same rfl).trans (by rw[←hB]; exact ow ..)) ((show Js B C from by rw[←hC]; exact Js.same rfl).trans (ow ..)) hN;obtain⟨x1,x2,y1,y2,cX,cY,rfl,rfl⟩:=hc.split;have e3:∀ x,0≤x→x<m.next→Vm.reg (Vm.setReg r m.next f) x=Vm.reg r x:=fun x hx B1=>pv A2.1 hx (by omega);have s1:Steps c E m.ins.length f r A.ins.length f (Vm.setReg r m.next f) 1:=by rw[lA]; exact Steps.one A5 (zvv (z:=0))
     have ff:Fine c E sh G A (Vm.setReg r m.next f):=⟨by omega,fun x hx=>by have:=hf.g x hx; omega,tg hf.len,by rw[eA]; exact hf.kn.regs fun x hx=>e3 x (hf.g x hx).1 (hf.g x hx).2⟩
     have hk:=ih a A X x1 x2 G (Vm.setReg r m.next f) f ha (A3 a (by simp)) ff (by rw[hB]; exact A0.sub (by omega) fun p _ hp=>iC p hp) (by rw[hB,hX,←hA]; rfl) cX;rw[hB] at hk;obtain⟨k,hs,f',r',a1,a2,g1,g2,g3,g4,g5,g6,g7,g8⟩:=hk;have s2:Steps c E B.ins.length f' r' C.ins.length (E.clamp f) r' 1:=by
      have e4:Vm.reg r' m.next=f:=by rw[g7 _ A2.1 (by omega)]; exact zl hf.len A2
      rw[lC]
      have:=Steps.one (E:=E) (f:=f') (r:=r') A7 (zvz (z:=0));rw[e4] at this;exact this
     have B4:Fine c E sh (Gn G A B) C r':=sn (m:=B) (jj ff nB g6 g8) (by omega) eC;have B2:=ih b C Y y1 y2 _ r' (E.clamp f) hb (A3 b (by simp)) B4 (A0.sub (by omega) fun p _ _=>rfl) (by rw[hY,←hC]; rfl) cY;obtain⟨k',hs',f'',r'',b1,b2,u1,u2,u3,u4,u5,u6,u7,u8⟩:=B2;have B5:=ku sh d b C;refine⟨1+k+1+k',hs++hs',f'',r'',a1+b1,a2+b2,((s1.does g1).steps s2).trans u1,g2.app u2,by omega,by omega,by omega,u6,fun x hx B1=>by rw[u7 x hx (by omega),g7 x hx (by omega),e3 x hx B1],u8.mono fun x hx=>?_⟩;rcases hx with(hx|hx)|hx
     ·exact .inl hx
     ·exact .inr (by omega)
     ·exact .inr (by omega)
    ·exact absurd rfl w3
   ·rw[ss hw rfl,ay] at A0 hN ⊢;have A8:cr o=false:=w4 (.inr rfl);obtain⟨v,hv⟩:=zhk E o (cf ho) A8;rw[vd,hv];refine CDone.free ?_;replace A0:=A0.same (iu _ _ _);rw[ji] at hN;obtain⟨O,hO⟩:∃ O,obs sh d o m []=O:=⟨_,rfl⟩
    rw[hO] at A0 hN ⊢;have lO:=bm sh d o m [];have nO:=jr sh d o m [] (cf ho) (A3 o (by simp));rw[hO] at lO nO;have kE:Fz O.2.1.ins.length O.2.1.ins (either (con sh d) O.1 (.mk 28 n s [o,a,b]) O.2.1):=by
     obtain⟨A,B,C,D,hA,hB,hC,hD,e⟩:=cm (con sh d) O.1 (.mk 28 n s [o,a,b]) O.2.1;rw[e];have h0:Fz O.2.1.ins.length O.2.1.ins O.2.1:=fun p _=>rfl;have lA:A.ins.length=O.2.1.ins.length+1:=by rw[hA,ah]
     have lB:A.ins.length≤B.ins.length:=by rw[hB]; exact ku ..
     have lC:C.ins.length=B.ins.length+1:=by rw[hC,ak,ah,ao]
     have gA:Fz O.2.1.ins.length O.2.1.ins A:=by rw[hA]; exact h0.lay (Nat.le_refl _) _
     have gB:Fz O.2.1.ins.length O.2.1.ins B:=by rw[hB]; exact zbx sh d _ A _ _ gA (by omega)
     have gC:Fz O.2.1.ins.length O.2.1.ins C:=by rw[hC]; exact((gB.back _).lay (by rw[ao]; omega) _).here (Nat.le_refl _)
     have gD:Fz O.2.1.ins.length O.2.1.ins D:=by rw[hD]; exact zbx sh d _ C _ _ gC (by omega)
     exact(gD.back _).here (by rw[ao]; omega)
    have nE:O.2.1.next≤(either (con sh d) O.1 (.mk 28 n s [o,a,b]) O.2.1).next:=by
     obtain⟨A,B,C,D,hA,hB,hC,hD,e⟩:=cm (con sh d) O.1 (.mk 28 n s [o,a,b]) O.2.1;rw[e];have nA:A.next=O.2.1.next:=by rw[hA]; rfl
     have nB:A.next≤B.next:=by rw[hB]; exact nk ..
     have nC:C.next=B.next:=by rw[hC]; rfl
     have nD:C.next≤D.next:=by rw[hD]; exact nk ..
     show _≤D.next
     omega
    have gO:Ag c m.ins.length O.2.1:=A0.sub (Nat.le_refl _) fun p _ hp=>kE p hp;have hs:=yc (f:=f) hR he d o m [] G r (cf ho) (A3 o (by simp)) hf (by rw[hO]; exact gO);rw[hO,hv] at hs;obtain⟨k1,r1,s1,b1,g1,p1,v1,A6,B3⟩:=hs;have ff:Fine c E sh (Gn G m O.2.1) O.2.1 r1:=jj hf nO g1 A6
    have:=zex (f:=f) ih (n:=n) (s:=s) (o:=o) (rg:=O.1) ha hb (A3 a (by simp)) (A3 b (by simp)) ff (A0.sub lO fun p _ _=>rfl) (by
     have e1:O.2.1.jobs=m.jobs:=by
      have:=congrArg Prod.fst (dr sh d o m []);rw[hO] at this;exact this
     rw[hN,e1]) hc
    rw[v1] at this;exact CDone.ahead s1 b1 p1 nO nE this
   ·exact absurd rfl w2
end
end Sm
end
section
open Go.RowKit
namespace Sm
open Co Gen Dn Gf
def Two (m:Mk)(p:Nat):Prop:=∃ x,m.ins[p]? = some x∧x.op=2
theorem Two.ext {m m':Mk}{p:Nat}(h:Two m p)(e:Ext m m'):Two m' p:=by
 obtain⟨x,hx,ho⟩:=h;obtain⟨z,hz⟩:=e.ins p x hx;exact⟨_,hz,ho⟩
theorem zfr (sh:Bool)(d:Nat):∀(t:T) (m:Mk) (u:List Nat),∀ p∈(obs sh d t m u).2.2,p∈u∨Two (obs sh d t m u).2.1 p:=by
 induction d with
 |zero=>intro t m u p hp; exact .inl hp
 |succ d ih=>
  intro t m u;have hr:∀(v:Val) (m':Mk) (u':List Nat),(∀ p∈u',p∈u∨Two m' p)→∀ p∈(au sh v m' u').2.2,p∈u∨Two (au sh v m' u').2.1 p:=by
   intro v m' u' h p hp;have he:=qn sh v u' (Ext.refl m');have key:p∈u'∨Two (au sh v m' u').2.1 p:=by
    unfold au at hp ⊢;split at hp
    ·exact .inl hp
    ·rename_i hk;have A0:p∈(if v.op=2 then u'++[m'.ins.length] else u'):=hp;split at A0
     ·rename_i h2;rcases List.mem_append.1 A0 with h1|h1
      ·exact .inl h1
      ·rw[List.mem_singleton] at h1;subst h1;exact .inr ⟨v.ix m'.next,dy m'.reg _,h2⟩
     ·exact .inl A0
   rcases key with h1|h1
   ·exact(h p h1).imp id fun h2=>h2.ext he
   ·exact .inr h1
  have hk:∀(t:T) (m':Mk) (u':List Nat) (out:Int),(∀ p∈u',p∈u∨Two m' p)→∀ p∈(aj sh out (obs sh d t m' u')).2,p∈u∨Two (aj sh out (obs sh d t m' u')).1 p:=by
   intro t m' u' out h p hp;have e1:Ext (obs sh d t m' u').2.1 (aj sh out (obs sh d t m' u')).1:=zac sh out (Ext.refl _);rcases ih t m' u' p hp with h1|h1
   ·exact(h p h1).imp id fun h2=>h2.ext ((jg sh d t m' u').trans e1)
   ·exact .inr (h1.ext e1)
  have h0:∀ p∈u,p∈u∨Two m p:=fun p hp=>.inl hp;have A2:∀ p∈u,p∈u∨Two m.reg p:=fun p hp=>.inl hp;rw[obs];split
  ·exact hr _ m u h0
  split
  ·exact hr _ m u h0
  split
  ·exact hr _ m u h0
  have ga:=hk (t.kid 0) m.reg u m.next A2;have up:∀ {A A':Mk} {u':List Nat},(∀ p∈u',p∈u∨Two A p)→Ext A A'→∀ p∈u',p∈u∨Two A' p:=fun h e p hp=>(h p hp).imp id fun h2=>h2.ext e;split
  ·unfold Gf.chosen iq;simp only;generalize aj sh m.next (obs sh d (t.kid 0) m.reg u)=A at *;exact up (hk (t.kid 1) _ A.2 m.next (up ga ((Ext.refl _).lay _))) ((((Ext.refl _).back _).here _).free sh _)
  split
  ·unfold Gf.chosen jy;simp only;generalize aj sh m.next (obs sh d (t.kid 0) m.reg u)=A at *;exact up (hk (t.kid 1) _ A.2 m.next (up ga ((((Ext.refl _).lay _).lay _).here _))) ((((Ext.refl _).back _).here _).free sh _)
  split
  ·unfold Gf.chosen jz;simp only;generalize aj sh m.next (obs sh d (t.kid 0) m.reg u)=A at *;have gb:=hk (t.kid 1) _ A.2 m.next (up ga ((Ext.refl _).lay (ix 19 0 m.next 0)));generalize aj sh m.next (obs sh d (t.kid 1) (A.1.lay (ix 19 0 m.next 0)) A.2)=C at *;exact up (hk (t.kid 2) _ C.2 m.next (up gb ((((Ext.refl _).back _).lay _).here _))) ((((Ext.refl _).back _).here _).free sh _)
  ·have g1:=ih (t.kid 0) m u;obtain⟨o,A1⟩:∃ o,obs sh d (t.kid 0) m u=o:=⟨_,rfl⟩
   rw[A1] at g1;by_cases hl:1<t.ks.length
   ·have g2:∀ p∈(obs sh d (t.kid 1) o.2.1 o.2.2).2.2,p∈u∨Two (obs sh d (t.kid 1) o.2.1 o.2.2).2.1 p:=fun p hp=>by
     rcases ih (t.kid 1) o.2.1 o.2.2 p hp with h1|h1
     ·exact(g1 p h1).imp id fun h2=>h2.ext (jg sh d _ _ _)
     ·exact .inr h1
    obtain⟨q,hq⟩:∃ q,obs sh d (t.kid 1) o.2.1 o.2.2=q:=⟨_,rfl⟩
    rw[hq] at g2;rw[iy hl rfl A1 rfl hq];cases sh
    ·exact up g2 (((Ext.refl _).lay _).free false _)
    ·exact hr _ q.2.1 q.2.2 g2
   ·rw[iz hl rfl A1];cases sh
    ·exact up g1 (((Ext.refl _).lay _).free false _)
    ·exact hr _ o.2.1 o.2.2 g1
theorem zaf:∀(l:List Nat) (m:Mk) (p:Nat),(hereAll m l).ins[p]? = if p∈l then(m.ins[p]?).map fun x=>gx x m.ins.length else m.ins[p]?
 | [],m,p=>by simp[hereAll]
 |q::l,m,p=>by
  have h:=zaf l (m.here q) p;have e:hereAll m (q::l)=hereAll (m.here q) l:=rfl;rw[e,h,ak,qb];by_cases hq:q=p
  ·subst hq;rw[if_pos rfl,if_pos (List.mem_cons_self ..)];by_cases hl:q∈l
   ·rw[if_pos hl,Option.map_map]; rfl
   ·rw[if_neg hl]
  ·rw[if_neg hq];by_cases hl:p∈l
   ·rw[if_pos hl,if_pos (List.mem_cons_of_mem _ hl)]
   ·rw[if_neg hl,if_neg (by simp only[List.mem_cons,not_or]; exact⟨Ne.symm hq,hl⟩)]
theorem dm:∀(l:List Nat) (m:Mk),(hereAll m l).ins.length=m.ins.length
 | [],m=>rfl
 |q::l,m=>(dm l (m.here q)).trans (ak _ _)
theorem lq (j:Nat)(X:Mk)(l:List Nat):(again j X l).ins.length=X.ins.length+3:=by
 unfold again;show(((hereAll _ l).ins++[_])++[_]).length=_
 rw[List.length_append,List.length_append,dm];show(X.ins++[_]).length+1+1=_
 simp
theorem zkg {j:Nat}{X:Mk}{l:List Nat}{p:Nat}(hp:p<X.ins.length):(again j X l).ins[p]? = if p∈l then(X.ins[p]?).map fun x=>gx x ((X.ins.length+1:Nat):Int) else X.ins[p]?:=by
 have hY:(X.setW j fun w=>{ w with day:=cv w.day }).fin.ins.length=X.ins.length+1:=by show(X.ins++[_]).length=_; simp
 have hy:(X.setW j fun w=>{ w with day:=cv w.day }).fin.ins[p]? = X.ins[p]?:=by show(X.ins++[_])[p]? = _; exact List.getElem?_append_left hp
 unfold again;show(((hereAll _ l).ins++[_])++[_])[p]? = _
 rw[List.getElem?_append_left (by rw[List.length_append,dm,hY]; omega),List.getElem?_append_left (by rw[dm,hY]; omega),zaf,hY,hy]
theorem zhp {j:Nat}{X:Mk}{l:List Nat}(hl:∀ p∈l,p<X.ins.length):(again j X l).ins[X.ins.length]? = some (ix 30 0 0 0)∧(again j X l).ins[X.ins.length+1]? = some (ix 28 0 0 j)∧(again j X l).ins[X.ins.length+2]? = some (ix 30 0 0 0):=by
 have hY:(X.setW j fun w=>{ w with day:=cv w.day }).fin.ins.length=X.ins.length+1:=by show(X.ins++[_]).length=_; simp
 have hy:(X.setW j fun w=>{ w with day:=cv w.day }).fin.ins[X.ins.length]? = some (ix 30 0 0 0):=by show(X.ins++[_])[_]? = _; simp
 unfold again;refine⟨?_,?_,?_⟩
 ·show(((hereAll _ l).ins++[_])++[_])[_]? = _
  rw[List.getElem?_append_left (by rw[List.length_append,dm,hY]; omega),List.getElem?_append_left (by rw[dm,hY]; omega),zaf,if_neg (fun h=>Nat.lt_irrefl _ (hl _ h)),hy]
 ·show(((hereAll _ l).ins++[_])++[_])[_]? = _
  rw[List.getElem?_append_left (by rw[List.length_append,dm,hY,List.length_singleton]; omega),List.getElem?_append_right (by rw[dm,hY]; omega),dm,hY];simp
 ·show(((hereAll _ l).ins++[_])++[_])[_]? = _
  rw[List.getElem?_append_right (by rw[List.length_append,dm,hY,List.length_singleton]; omega),List.length_append,dm,hY];simp
def kw (c:Cd)(W:Mk):Prop:=∀ p,p<W.ins.length→c.ins[p]? = W.ins[p]?
section
variable {c:Cd}{E:Vm.Env}{J:Nat→T→Nat→Nat→Prop}{sh:Bool}{f:Int}{r:List Int}{d j:Nat}{N:List (Nat × T)}{q1 q2 p1 p2:Nat}{X:Mk}{l:List Nat}
theorem zap (hc:kw c (again j X l))(hl:∀ p∈l,p<X.ins.length):Ends c E ((X.ins.length+1:Nat):Int) f r 2 [((j:Int),f)] []:=by
 obtain⟨-,h2,h3⟩:=zhp (j:=j) hl;have A0:=lq j X l;rw[←hc _ (by omega)] at h2 h3;have a:=Does.hold (E:=E) (f:=f) (r:=r) h2 (show(28:Int)=28 from rfl);have b:=Ends.stop (E:=E) (f:=f) (r:=r) h3 (show(30:Int)=30 from rfl);exact a.ends b
theorem qu (hc:kw c (again j X l))(hl:∀ p∈l,p<X.ins.length):Ends c E (X.ins.length:Int) f r 1 [] []:=by
 obtain⟨h1, -, -⟩:=zhp (j:=j) hl;have A0:=lq j X l;rw[←hc _ (by omega)] at h1;exact Ends.stop h1 (show(30:Int)=30 from rfl)
theorem tn (hc:kw c (again j X l)){p:Nat}{x:Ix}(hp:p∈l)(hx:X.ins[p]? = some x):c.ins[p]? = some (gx x ((X.ins.length+1:Nat):Int)):=by
 have A0:=lq j X l;have h1:=(List.getElem?_eq_some_iff.1 hx).1;rw[hc _ (by omega),zkg h1,if_pos hp,hx];rfl
theorem zcd (hc:kw c (again j X l)){p:Nat}{x:Ix}(hp:p∉l)(hx:X.ins[p]? = some x):c.ins[p]? = some x:=by
 have A0:=lq j X l;have h1:=(List.getElem?_eq_some_iff.1 hx).1;rw[hc _ (by omega),zkg h1,if_neg hp,hx]
theorem pn (hc:kw c (again j X l)){Y:Mk}{n:Nat}(hY:∀ p,n≤p→p<Y.ins.length→X.ins[p]? = Y.ins[p]?)(h:∀ p∈l,n≤p→p<Y.ins.length→Two Y p):Ag c n Y:=by
 intro p x hp hx;have h1:=(List.getElem?_eq_some_iff.1 hx).1;have hX:=hY p hp h1;rw[hx] at hX;by_cases hl:p∈l
 ·refine⟨_,tn hc hl hX,fun h2=>?_⟩;obtain⟨y,hy,A0⟩:=h p hl hp h1;rw[hx] at hy;cases hy;exact absurd A0 h2
 ·exact⟨x.to,zcd hc hl hX,fun _=>rfl⟩
theorem zbu {p:Nat}{n L:Int}(h:c.ins[p]? = some (gx (ix 21 0 0 n) L)):Steps c E p f r (if n<E.day then L else((p+1:Nat):Int)) f r 1:=by
 refine Steps.one h ?_;show Vm.Act.next (if decide (n<E.day)=true then L else(p:Int)+1) f r=_
 by_cases h:n<E.day
 ·rw[if_pos h,if_pos (by rw[decide_eq_true_eq]; exact h)]
 ·rw[if_neg h,if_neg (by rw[decide_eq_true_eq]; exact h)]; rfl
theorem znr {p:Nat}{n L:Int}(h:c.ins[p]? = some (gx (ix 22 0 0 n) L)):Steps c E p f r (if E.day<n then L else((p+1:Nat):Int)) f r 1:=by
 refine Steps.one h ?_;show Vm.Act.next (if decide (E.day<n)=true then L else(p:Int)+1) f r=_
 by_cases h:E.day<n
 ·rw[if_pos h,if_pos (by rw[decide_eq_true_eq]; exact h)]
 ·rw[if_neg h,if_neg (by rw[decide_eq_true_eq]; exact h)]; rfl
def No:Int→Prop:=fun _=>False
theorem zah {m:Mk}(hn:m.next=0)(hk:m.known=rx):Fine c E sh No m Vm.zeros:=⟨by omega,fun x hx=>hx.elim,zaw,fun _ v x hx=>by rw[hk] at hx; cases hx⟩
theorem Match.one {t:T}(hJ:J j t p1 p2):Match J [((j:Int),f)] (km t f).1 p1 p2:=Match.cons (q1:=0) (q2:=0) hJ .nil
theorem zyy (hR:Gen.right c=true)(he:EnvOk E){n:Int}{s:ByteArray}{a:T}{m:Mk}(ha:a.letter=99)(da:a.depth≤d)(hn:m.next=0)(hk:m.known=rx)
  (hX:con sh d a (m.lay (ix 22 0 0 n))=X) (hc:kw c (again j X [m.ins.length])) (hN:X.jobs=m.jobs++N) (hq:Cost (vp c E J) N q1 q2) (hJ:J j (.mk 29 n s [a]) p1 p2) (h1:X.ins.length+3+q1≤p1+m.ins.length) (h2:q2≤p2):jf c E J m.ins.length (den E (.mk 29 n s [a])) p1 p2:=by
 intro f;have lA:(m.lay (ix 22 0 0 n)).ins.length=m.ins.length+1:=ah _ _;have lX:(m.lay (ix 22 0 0 n)).ins.length≤X.ins.length:=by rw[←hX]; exact ku ..
 have hl:∀ p∈[m.ins.length],p<X.ins.length:=fun p hp=>by rw[List.mem_singleton] at hp; omega
 have kX:Fz (m.lay (ix 22 0 0 n)).ins.length (m.lay (ix 22 0 0 n)).ins X:=by rw[←hX]; exact iw sh d a _
 have hj:=znr (E:=E) (f:=f) (r:=Vm.zeros) (tn hc (List.mem_singleton.2 rfl) (show X.ins[m.ins.length]? = some (ix 22 0 0 n) by rw[kX _ (by omega)]; exact dy _ _));rw[vc];by_cases hd:E.day<n
 ·rw[if_pos hd] at hj ⊢;exact⟨1+2,_,p1,p2,hj.ends (zap hc hl),Match.one hJ,by omega,Nat.le_refl _,Nat.le_refl _⟩
 ·rw[if_neg hd] at hj ⊢;have hA:Ag c (m.lay (ix 22 0 0 n)).ins.length X:=pn hc (fun p _ _=>rfl) fun p hp h3 h4=>by rw[List.mem_singleton] at hp; omega
  have:=rl (J:=J) hR he d a (m.lay (ix 22 0 0 n)) N q1 q2 No Vm.zeros f ha da (zah hn hk) (by rw[hX]; exact hA) (by rw[hX,hN]; rfl) hq;rw[hX] at this;obtain⟨k,hs,f',r',a1,a2,g1,g2,g3,g4,g5, -, -, -⟩:=this;rw[lA] at g1
  have:=(hj.does g1).ends (qu (E:=E) (f:=f') (r:=r') hc hl);rw[List.append_nil,List.append_nil] at this;exact⟨1+k+1,hs,a1,a2,this,g2,by omega,by omega,by omega⟩
theorem zbm {m m':Mk}{u:List Nat}{r0:List Int}{k0:Nat}{at':Int}(h:Lost c E m m' u f r)(hs:Steps c E at' f r0 m.ins.length f r k0)(hc:kw c (again j X l))(hl:∀ p∈l,p<X.ins.length)(hu:∀ p∈u,p∈l):∃ k,Ends c E at' f r0 (k0+k+2) [((j:Int),f)] []∧k+m.ins.length≤m'.ins.length:=by
 obtain⟨k,r',p,x,g1,g2,g3,g4,g5⟩:=h;have hp:=hl p (hu p g1);have hx:=tn hc (hu p g1) (List.getElem?_eq_getElem hp);rw[g3] at hx;cases hx;exact⟨k,(hs.trans g4).ends (zap hc hl),g5⟩
theorem zsm (hR:Gen.right c=true)(he:EnvOk E){n:Int}{s:ByteArray}{o a:T}{m X':Mk}{O:Ob}(ho:o.letter=98)(do':o.depth≤d)(ha:a.letter=99)(da:a.depth≤d)(hn:m.next=0)(hk:m.known=rx)
  (hO:obs sh d o (m.lay (ix 21 0 0 n)) []=O) (hX:con sh d a (O.2.1.lay (ix 19 0 O.1 0))=X) (A1:X.here m.ins.length=X') (hc:kw c (again j X' (O.2.2++[O.2.1.ins.length]))) (hN:X.jobs=m.jobs++N) (hq:Cost (vp c E J) N q1 q2) (hJ:J j (.mk 30 n s [o,a]) p1 p2)
  (h1:X.ins.length+3+q1≤p1+m.ins.length) (h2:q2≤p2):jf c E J m.ins.length (den E (.mk 30 n s [o,a])) p1 p2:=by
 intro f;have lP:(m.lay (ix 21 0 0 n)).ins.length=m.ins.length+1:=ah _ _;have lO:=bm sh d o (m.lay (ix 21 0 0 n)) [];have nO:=jr sh d o (m.lay (ix 21 0 0 n)) [] (cf ho) do';have wO:=og sh d o (m.lay (ix 21 0 0 n)) [] (fun p hp=>by cases hp);have uO:=zcl sh d o (m.lay (ix 21 0 0 n)) [];have tO:=zfr sh d o (m.lay (ix 21 0 0 n)) [];have kO:=zo sh d o (m.lay (ix 21 0 0 n)) [];have jO:=dr sh d o (m.lay (ix 21 0 0 n)) [];rw[hO] at lO nO wO uO tO kO jO;obtain⟨A,hA⟩:∃ A,O.2.1.lay (ix 19 0 O.1 0)=A:=⟨_,rfl⟩
 rw[hA] at hX;have lA:A.ins.length=O.2.1.ins.length+1:=by rw[←hA,ah]
 have lX:A.ins.length≤X.ins.length:=by rw[←hX]; exact ku ..
 have lX':X'.ins.length=X.ins.length:=by rw[←A1,ak]
 have kX:Fz A.ins.length A.ins X:=by rw[←hX]; exact iw sh d a A
 have iX:∀ p,p<O.2.1.ins.length→X.ins[p]? = O.2.1.ins[p]?:=fun p hp=>by rw[kX _ (by omega),←hA,dx _ _ hp]
 have iX':∀ p,p≠m.ins.length→X'.ins[p]? = X.ins[p]?:=fun p hp=>by rw[←A1,gp _ (Ne.symm hp)]
 have hu:∀ p∈O.2.2,m.ins.length+1≤p∧p<O.2.1.ins.length:=fun p hp=>⟨by rcases uO p hp with h|h; cases h; omega,wO p hp⟩
 have hl:∀ p∈O.2.2++[O.2.1.ins.length],p<X'.ins.length:=fun p hp=>by
  rcases List.mem_append.1 hp with h|h
  ·have:=hu p h; omega
  ·rw[List.mem_singleton] at h; omega
 have A4:m.ins.length∉O.2.2++[O.2.1.ins.length]:=fun hp=>by
  rcases List.mem_append.1 hp with h|h
  ·have:=hu _ h; omega
  ·rw[List.mem_singleton] at h; omega
 have hj:=zbu (E:=E) (f:=f) (r:=Vm.zeros) (zcd hc A4 (show X'.ins[m.ins.length]? = some (gx (ix 21 0 0 n) X.ins.length) by
  rw[←A1];refine mp X ?_;rw[iX _ (by omega),kO _ (by omega)]; exact dy _ _))
 rw[yo];by_cases hd:n<E.day
 ·rw[if_pos hd] at hj ⊢;rw[←lX'] at hj;exact⟨1+1,[],0,0,hj.ends (qu hc hl),.nil,by omega,Nat.zero_le _,Nat.zero_le _⟩
 ·rw[if_neg hd] at hj ⊢;rw[←lP] at hj;have gO:Ag c (m.lay (ix 21 0 0 n)).ins.length O.2.1:=pn hc (fun p hp A2=>by rw[iX' p (by omega),iX p A2]) fun p hp h3 h4=>by
   rcases List.mem_append.1 hp with h|h
   ·rcases tO p h with h5|h5
    ·cases h5
    ·exact h5
   ·rw[List.mem_singleton] at h; omega
  have hf:=zah (c:=c) (E:=E) (sh:=sh) (m:=m.lay (ix 21 0 0 n)) hn hk;have hs:=yc (f:=f) hR he d o (m.lay (ix 21 0 0 n)) [] No Vm.zeros (cf ho) do' hf (by rw[hO]; exact gO);rw[hO] at hs;cases hv:aq E o with
  |none=>
   rw[hv] at hs;obtain⟨k,g1,g2⟩:=zbm (show Lost c E _ O.2.1 O.2.2 f _ from hs) hj hc hl fun p hp=>List.mem_append_left _ hp;exact⟨_,_,p1,p2,g1,Match.one hJ,by omega,Nat.le_refl _,Nat.le_refl _⟩
  |some v=>
   rw[hv] at hs;obtain⟨k1,r1,s1,b1,g1,P1,v1,A3,A6⟩:=hs;have A0:=qp (E:=E) (f:=f) (r:=r1) (tn hc (p:=O.2.1.ins.length) (x:=ix 19 0 O.1 0) (by simp) (by rw[iX' _ (by omega),kX _ (by omega),←hA]; exact dy _ _));rw[v1] at A0;simp only;by_cases h0:v=0
   ·rw[if_pos h0] at A0 ⊢;exact⟨_,_,p1,p2,((hj.trans s1).trans A0).ends (zap hc hl),Match.one hJ,by omega,Nat.le_refl _,Nat.le_refl _⟩
   ·rw[if_neg h0,←lA] at A0;rw[if_neg h0];have gA:Ag c A.ins.length X:=pn hc (fun p hp A2=>iX' p (by omega)) fun p hp h3 h4=>by
     rcases List.mem_append.1 hp with h|h
     ·have:=hu p h; omega
     ·rw[List.mem_singleton] at h; omega
    have ff:=jj (m1:=O.2.1) hf nO g1 A3;have A5:Fine c E sh (Gn No (m.lay (ix 21 0 0 n)) O.2.1) A r1:=sn ff (by rw[←hA]; exact Int.le_refl _) (by rw[←hA]; rfl);have jA:A.jobs=m.jobs:=by rw[←hA]; exact congrArg Prod.fst jO
    have:=rl (J:=J) hR he d a A N q1 q2 _ r1 f ha da A5 (by rw[hX]; exact gA) (by rw[hX,hN,jA]) hq;rw[hX] at this;obtain⟨k,hs,f',r',a1,a2,u1,u2,u3,u4,u5, -, -, -⟩:=this;rw[←lX'] at u1
    have:=(((hj.trans s1).trans A0).does u1).ends (qu (E:=E) (f:=f') (r:=r') hc hl);rw[List.append_nil,List.append_nil] at this;exact⟨_,hs,a1,a2,this,u2,by omega,by omega,by omega⟩
end
end Sm
end
section
open Go.RowKit
namespace Sm
open Co Gen Dn Gf
theorem zhf (sh:Bool)(d:Nat)(rg:Int)(t:T)(m:Mk){n:Nat}{l:List Ix}(h:Fz n l m)(hn:n≤m.ins.length):Fz n l (either (con sh d) rg t m)∧m.ins.length+2≤(either (con sh d) rg t m).ins.length:=by
 obtain⟨A,B,C,D,hA,hB,hC,hD,e⟩:=cm (con sh d) rg t m;rw[e];have lA:A.ins.length=m.ins.length+1:=by rw[hA,ah]
 have lB:A.ins.length≤B.ins.length:=by rw[hB]; exact ku ..
 have lC:C.ins.length=B.ins.length+1:=by rw[hC,ak,ah,ao]
 have lD:C.ins.length≤D.ins.length:=by rw[hD]; exact ku ..
 have gA:Fz n l A:=by rw[hA]; exact h.lay hn _
 have gB:Fz n l B:=by rw[hB]; exact zbx sh d _ A _ _ gA (by omega)
 have gC:Fz n l C:=by rw[hC]; exact((gB.back _).lay (by rw[ao]; omega) _).here hn
 have gD:Fz n l D:=by rw[hD]; exact zbx sh d _ C _ _ gC (by omega)
 exact⟨(gD.back _).here (by rw[ao]; omega),by rw[ak,ao]; omega⟩
theorem zrm (sh:Bool)(d:Nat)(rg:Int)(t:T)(m:Mk):Js m (either (con sh d) rg t m):=by
 obtain⟨A,B,C,D,hA,hB,hC,hD,e⟩:=cm (con sh d) rg t m;rw[e];have jA:Js m A:=by rw[hA]; exact Js.same rfl
 have jB:Js A B:=by rw[hB]; exact ow ..
 have jC:Js B C:=by rw[hC]; exact Js.same rfl
 have jD:Js C D:=by rw[hD]; exact ow ..
 exact(((jA.trans jB).trans jC).trans jD).then rfl
section
variable {c:Cd}{E:Vm.Env}{J:Nat→T→Nat→Nat→Prop}{sh:Bool}{f:Int}{r:List Int}{d j:Nat}{N:List (Nat × T)}{q1 q2 p1 p2:Nat}{X:Mk}{l:List Nat}
theorem zpe (hR:Gen.right c=true)(he:EnvOk E){n:Int}{s:ByteArray}{o a:T}{m:Mk}{O:Ob}(ho:o.letter=110)(do':o.depth≤d)(ha:a.letter=99)(da:a.depth≤d)(hn:m.next=0)(hk:m.known=rx)
  (hO:obs sh d o m []=O) (hX:con sh d a (O.2.1.lay (ix 23 0 O.1 0))=X) (hc:kw c (again j X O.2.2)) (hN:X.jobs=m.jobs++N) (hq:Cost (vp c E J) N q1 q2) (hJ:J j (.mk 26 n s [o,a]) p1 p2)
  (h1:X.ins.length+3+q1≤p1+m.ins.length) (h2:q2≤p2):jf c E J m.ins.length (den E (.mk 26 n s [o,a])) p1 p2:=by
 intro f;have lO:=bm sh d o m [];have nO:=jr sh d o m [] (dc ho) do';have wO:=og sh d o m [] (fun p hp=>by cases hp);have tO:=zfr sh d o m [];have kO:=zo sh d o m [];have jO:=dr sh d o m [];rw[hO] at lO nO wO tO kO jO;obtain⟨A,hA⟩:∃ A,O.2.1.lay (ix 23 0 O.1 0)=A:=⟨_,rfl⟩
 rw[hA] at hX;have lA:A.ins.length=O.2.1.ins.length+1:=by rw[←hA,ah]
 have lX:A.ins.length≤X.ins.length:=by rw[←hX]; exact ku ..
 have kX:Fz A.ins.length A.ins X:=by rw[←hX]; exact iw sh d a A
 have iX:∀ p,p<O.2.1.ins.length→X.ins[p]? = O.2.1.ins[p]?:=fun p hp=>by rw[kX _ (by omega),←hA,dx _ _ hp]
 have hl:∀ p∈O.2.2,p<X.ins.length:=fun p hp=>by have:=wO p hp; omega
 have gO:Ag c m.ins.length O.2.1:=pn hc (fun p hp A0=>iX p A0) fun p hp h3 h4=>by
  rcases tO p hp with h5|h5
  ·cases h5
  ·exact h5
 have hf:=zah (c:=c) (E:=E) (sh:=sh) (m:=m) hn hk;have hs:=yc (f:=f) hR he d o m [] No Vm.zeros (dc ho) do' hf (by rw[hO]; exact gO);rw[hO] at hs;rw[yt];cases hv:aq E o with
 |none=>
  rw[hv] at hs;obtain⟨k,g1,g2⟩:=zbm (show Lost c E _ O.2.1 O.2.2 f _ from hs) Steps.refl hc hl fun p hp=>hp;exact⟨_,_,p1,p2,g1,Match.one hJ,by omega,Nat.le_refl _,Nat.le_refl _⟩
 |some v=>
  rw[hv] at hs;obtain⟨k1,r1,s1,b1,g1,P1,v1,A1,A4⟩:=hs;have A2:=zcd hc (p:=O.2.1.ins.length) (x:=ix 23 0 O.1 0) (fun h=>by have:=wO _ h; omega) (by rw[kX _ (by omega),←hA]; exact dy _ _);have s2:Steps c E m.ins.length f Vm.zeros A.ins.length (E.mul f v) r1 (k1+1):=by
   rw[lA,←v1];exact s1.trans (Steps.one A2 (zhq (z:=0)))
  have gA:Ag c A.ins.length X:=pn hc (fun p hp A0=>rfl) fun p hp h3 h4=>by have:=wO p hp; omega
  have ff:=jj (m1:=O.2.1) hf nO g1 A1;have A3:Fine c E sh (Gn No m O.2.1) A r1:=sn ff (by rw[←hA]; exact Int.le_refl _) (by rw[←hA]; rfl);have jA:A.jobs=m.jobs:=by rw[←hA]; exact congrArg Prod.fst jO
  have:=rl (J:=J) hR he d a A N q1 q2 _ r1 (E.mul f v) ha da A3 (by rw[hX]; exact gA) (by rw[hX,hN,jA]) hq;rw[hX] at this;obtain⟨k,hs,f',r',a1,a2,u1,u2,u3,u4,u5, -, -, -⟩:=this
  have:=(s2.does u1).ends (qu (E:=E) (f:=f') (r:=r') hc hl);rw[List.append_nil,List.append_nil] at this;exact⟨_,hs,a1,a2,this,u2,by omega,by omega,by omega⟩
theorem zxq (hR:Gen.right c=true)(he:EnvOk E){n:Int}{s:ByteArray}{o a b:T}{m:Mk}{O:Ob}(ho:o.letter=98)(do':o.depth≤d)(ha:a.letter=99)(da:a.depth≤d)(hb:b.letter=99)(db:b.depth≤d)(hn:m.next=0)(hk:m.known=rx)
  (hO:obs sh d o m []=O) (hX:either (con sh d) O.1 (.mk 28 n s [o,a,b]) O.2.1=X) (hc:kw c (again j X O.2.2)) (hN:X.jobs=m.jobs++N) (hq:Cost (vp c E J) N q1 q2) (hJ:J j (.mk 28 n s [o,a,b]) p1 p2)
  (h1:X.ins.length+3+q1≤p1+m.ins.length) (h2:q2≤p2):jf c E J m.ins.length (den E (.mk 28 n s [o,a,b])) p1 p2:=by
 intro f;have lO:=bm sh d o m [];have nO:=jr sh d o m [] (cf ho) do';have wO:=og sh d o m [] (fun p hp=>by cases hp);have tO:=zfr sh d o m [];have jO:=dr sh d o m [];rw[hO] at lO nO wO tO jO;obtain⟨kX,lX⟩:=zhf sh d O.1 (.mk 28 n s [o,a,b]) O.2.1 (n:=O.2.1.ins.length) (l:=O.2.1.ins) (fun p _=>rfl) (Nat.le_refl _);rw[hX] at kX lX;have hl:∀ p∈O.2.2,p<X.ins.length:=fun p hp=>by have:=wO p hp; omega
 have gO:Ag c m.ins.length O.2.1:=pn hc (fun p hp A0=>kX p A0) fun p hp h3 h4=>by
  rcases tO p hp with h5|h5
  ·cases h5
  ·exact h5
 have hf:=zah (c:=c) (E:=E) (sh:=sh) (m:=m) hn hk;have hs:=yc (f:=f) hR he d o m [] No Vm.zeros (cf ho) do' hf (by rw[hO]; exact gO);rw[hO] at hs;rw[vd];cases hv:aq E o with
 |none=>
  rw[hv] at hs;obtain⟨k,g1,g2⟩:=zbm (show Lost c E _ O.2.1 O.2.2 f _ from hs) Steps.refl hc hl fun p hp=>hp;exact⟨_,_,p1,p2,g1,Match.one hJ,by omega,Nat.le_refl _,Nat.le_refl _⟩
 |some v=>
  rw[hv] at hs;obtain⟨k1,r1,s1,b1,g1,P1,v1,A1,A2⟩:=hs;have gA:Ag c O.2.1.ins.length X:=pn hc (fun p hp A0=>rfl) fun p hp h3 h4=>by have:=wO p hp; omega
  have ff:=jj (m1:=O.2.1) hf nO g1 A1;have jA:O.2.1.jobs=m.jobs:=congrArg Prod.fst jO
  have:=zex (J:=J) (f:=f) (rl hR he d) (n:=n) (s:=s) (o:=o) (rg:=O.1) ha hb da db ff (by rw[hX]; exact gA) (by rw[hX,hN,jA]) hq;rw[hX,v1] at this;obtain⟨k,hs,f',r',a1,a2,u1,u2,u3,u4,u5, -, -, -⟩:=this
  have:=(s1.does u1).ends (qu (E:=E) (f:=f') (r:=r') hc hl);rw[List.append_nil,List.append_nil] at this;exact⟨_,hs,a1,a2,this,u2,by omega,by omega,by omega⟩
theorem ztz (hR:Gen.right c=true)(he:EnvOk E){n:Int}{s:ByteArray}{a b:T}{m A B C D W:Mk}(ha:a.letter=99)(da:a.depth≤d)(hb:b.letter=99)(db:b.depth≤d)(hn:m.next=0)(hk:m.known=rx)
  (hA:A=((m.lay (ix 21 0 0 n)).lay (ix 28 0 0 j)).fin) (hC:C=con sh d a (A.lay (ix 21 0 0 n))) (hB:B=(C.fin.here m.ins.length).here A.ins.length) (hD:D=con sh d b B.fresh) (hW:W.ins=D.fin.ins)
  (hc:kw c W) (hN:D.jobs=m.jobs++N) (hq:Cost (vp c E J) N q1 q2) (hJ:J j (.mk 31 n s [a,b]) p1 p2)
  (h1:W.ins.length+q1≤p1+m.ins.length) (h2:q2≤p2):jf c E J m.ins.length (den E (.mk 31 n s [a,b])) p1 p2 ∧
   jf c E J A.ins.length (fun f=>if n<E.day then den E b f else den E a f) p1 p2∧jf c E J B.ins.length (den E b) p1 p2:=by
 have l0:(m.lay (ix 21 0 0 n)).ins.length=m.ins.length+1:=ah _ _;have l1:((m.lay (ix 21 0 0 n)).lay (ix 28 0 0 j)).ins.length=m.ins.length+2:=by rw[ah,l0]
 have lA:A.ins.length=m.ins.length+3:=by rw[hA]; show(Mk.lay _ _).ins.length=_; rw[ah,l1]
 have lP:(A.lay (ix 21 0 0 n)).ins.length=A.ins.length+1:=ah _ _;have lC:A.ins.length+1≤C.ins.length:=by rw[hC,←lP]; exact ku ..
 have lB:B.ins.length=C.ins.length+1:=by rw[hB,ak,ak]; exact ah _ _
 have lD:B.ins.length≤D.ins.length:=by rw[hD]; exact ku sh d b B.fresh
 have lW:W.ins.length=D.ins.length+1:=by rw[hW]; exact ah _ _
 have kC:∀ p,p<A.ins.length+1→C.ins[p]? = (A.lay (ix 21 0 0 n)).ins[p]?:=fun p hp=>by rw[hC]; exact iw sh d a _ p (by omega)
 have kD:∀ p,p<B.ins.length→D.ins[p]? = B.ins[p]?:=fun p hp=>by rw[hD]; exact iw sh d b B.fresh p hp
 have iW:∀ p,p<D.ins.length→W.ins[p]? = D.ins[p]?:=fun p hp=>by rw[hW]; exact dx D _ hp
 have iB:∀ p,p<C.ins.length→p≠m.ins.length→p≠A.ins.length→B.ins[p]? = C.ins[p]?:=fun p hp h2 h3=>by rw[hB,gp _ (Ne.symm h3),gp _ (Ne.symm h2)]; exact dx C _ hp
 have iA:∀ p x,p<A.ins.length→p≠m.ins.length→A.ins[p]? = some x→c.ins[p]? = some x:=fun p x hp h2 hx=>by
  rw[hc _ (by omega),iW _ (by omega),kD _ (by omega),iB _ (by omega) h2 (by omega),kC _ (by omega),dx _ _ hp]; exact hx
 have a1:A.ins[m.ins.length+1]? = some (ix 28 0 0 j):=by
  rw[hA];show(Mk.lay _ _).ins[_]? = _
  rw[dx _ _ (by omega),←l0]; exact dy _ _
 have a2:A.ins[m.ins.length+2]? = some (ix 30 0 0 0):=by
  rw[hA];show(Mk.lay _ _).ins[_]? = _
  rw[←l1]; exact dy _ _
 have a0:C.fin.ins[m.ins.length]? = some (ix 21 0 0 n):=by
  show(Mk.lay C _).ins[_]? = _
  rw[dx _ _ (by omega),kC _ (by omega),dx _ _ (by omega),hA];show(Mk.lay _ _).ins[_]? = _
  rw[dx _ _ (by omega),dx _ _ (by omega)]; exact dy _ _
 have a3:C.fin.ins[A.ins.length]? = some (ix 21 0 0 n):=by
  show(Mk.lay C _).ins[_]? = _
  rw[dx _ _ (by omega),kC _ (by omega)]; exact dy _ _
 have lf:C.fin.ins.length=C.ins.length+1:=ah _ _;have c0:c.ins[m.ins.length]? = some (gx (ix 21 0 0 n) B.ins.length):=by
  rw[hc _ (by omega),iW _ (by omega),kD _ (by omega),hB,gp _ (by omega),mp _ a0,ak,ak]
 have c3:c.ins[A.ins.length]? = some (gx (ix 21 0 0 n) B.ins.length):=by
  rw[hc _ (by omega),iW _ (by omega),kD _ (by omega),hB]
  have:=mp (C.fin.here m.ins.length) (q:=A.ins.length) (x:=ix 21 0 0 n) (by rw[gp _ (by omega)]; exact a3);rw[this,ak,ak,ak]
 have c1:=iA _ _ (by omega) (by omega) a1;have c2:=iA _ _ (by omega) (by omega) a2;have cC:c.ins[C.ins.length]? = some (ix 30 0 0 0):=by
  rw[hc _ (by omega),iW _ (by omega),kD _ (by omega),hB,gp _ (by omega),gp _ (by omega)]; exact dy C _
 have cD:c.ins[D.ins.length]? = some (ix 30 0 0 0):=by
  rw[hc _ (by omega),hW]; exact dy D _
 have gC:Ag c (A.ins.length+1) C:=fun p x hp hx=>by
  have:=(List.getElem?_eq_some_iff.1 hx).1;exact⟨x.to,by rw[hc _ (by omega),iW _ (by omega),kD _ (by omega),iB _ (by omega) (by omega) (by omega),hx]; rfl,fun _=>rfl⟩
 have gD:Ag c B.ins.length D:=fun p x hp hx=>by
  have:=(List.getElem?_eq_some_iff.1 hx).1;exact⟨x.to,by rw[hc _ (by omega),iW _ (by omega),hx]; rfl,fun _=>rfl⟩
 have e1:(A.lay (ix 21 0 0 n)).jobs=m.jobs:=by rw[hA]; rfl
 have e2:(A.lay (ix 21 0 0 n)).next=0:=by rw[hA]; exact hn
 have e3:(A.lay (ix 21 0 0 n)).known=rx:=by rw[hA]; exact hk
 have e4:B.fresh.jobs=C.jobs:=by rw[hB]; rfl
 have jm:Js m C:=(show Js m (A.lay (ix 21 0 0 n)) from Js.same (by rw[hA]; rfl)).trans (by rw[hC]; exact ow ..);have jD:Js C D:=(show Js C B.fresh from Js.same (by rw[hB]; rfl)).trans (by rw[hD]; exact ow ..);obtain⟨X,Y,hX,hY,rfl⟩:=zdr jm jD hN;obtain⟨x1,x2,y1,y2,cX,cY,rfl,rfl⟩:=hq.split;have sB:∀ f,∃ k hs a1 a2,Ends c E B.ins.length f Vm.zeros k hs (den E b f).2∧Match J hs (den E b f).1 a1 a2∧k+B.ins.length≤D.ins.length+y1+1∧a1≤y1∧a2≤y2:=fun f=>by
  have:=rl (J:=J) (sh:=sh) hR he d b B.fresh Y y1 y2 No Vm.zeros f hb db (zah rfl rfl) (by rw[←hD]; exact gD) (by rw[←hD,hY,e4]) cY;rw[←hD] at this;obtain⟨k,hs,f',r',a1,a2,u1,u2,u3,u4,u5, -, -, -⟩:=this;have u1:Does c E B.ins.length f Vm.zeros D.ins.length f' r' k hs (den E b f).2:=u1;have u3:k+B.ins.length≤D.ins.length+y1:=u3;have g:=u1.ends (Ends.stop (E:=E) (f:=f') (r:=r') cD (show(30:Int)=30 from rfl));rw[List.append_nil,List.append_nil] at g;exact⟨_,hs,a1,a2,g,u2,by omega,u4,u5⟩
 refine⟨fun f=>?_,fun f=>?_,fun f=>?_⟩
 ·have hj:=zbu (E:=E) (f:=f) (r:=Vm.zeros) c0;rw[zfa];by_cases hd:n<E.day
  ·rw[if_pos hd] at hj ⊢;obtain⟨k,hs,a1,a2,g1,g2,g3,g4,g5⟩:=sB f;exact⟨_,hs,a1,a2,hj.ends g1,g2,by omega,by omega,by omega⟩
  ·rw[if_neg hd] at hj ⊢;have g1:=Does.hold (E:=E) (f:=f) (r:=Vm.zeros) c1 (show(28:Int)=28 from rfl);have g2:=Ends.stop (E:=E) (f:=f) (r:=Vm.zeros) c2 (show(30:Int)=30 from rfl);exact⟨_,_,p1,p2,hj.ends (g1.ends g2),Match.one hJ,by omega,Nat.le_refl _,Nat.le_refl _⟩
 ·have hj:=zbu (E:=E) (f:=f) (r:=Vm.zeros) c3;by_cases hd:n<E.day
  ·simp only[if_pos hd] at hj ⊢;obtain⟨k,hs,a1,a2,g1,g2,g3,g4,g5⟩:=sB f;exact⟨_,hs,a1,a2,hj.ends g1,g2,by omega,by omega,by omega⟩
  ·simp only[if_neg hd] at hj ⊢
   have:=rl (J:=J) (sh:=sh) hR he d a (A.lay (ix 21 0 0 n)) X x1 x2 No Vm.zeros f ha da (zah e2 e3) (by rw[←hC,lP]; exact gC) (by rw[←hC,hX,e1]) cX;rw[←hC] at this;obtain⟨k,hs,f',r',a1,a2,u1,u2,u3,u4,u5, -, -, -⟩:=this;rw[lP] at u1;have g:=(hj.does u1).ends (Ends.stop (E:=E) (f:=f') (r:=r') cC (show(30:Int)=30 from rfl));rw[List.append_nil,List.append_nil] at g;rw[lP] at u3;exact⟨_,hs,a1,a2,g,u2,by omega,by omega,by omega⟩
 ·obtain⟨k,hs,a1,a2,g1,g2,g3,g4,g5⟩:=sB f;exact⟨_,hs,a1,a2,g1,g2,by omega,by omega,by omega⟩
end
end Sm
end
section
open Go.RowKit
namespace Gf
open Co Gen Dn
def NoW:Nat→Prop:=fun _=>False
structure Bd (m:Mk):Prop where
 rt:Rt NoW NoW m
 st:∀(p:Nat) x,m.ins[p]? = some x→kx x.op=true→x.to<m.ins.length
 rg:m.regs≤256
 ls:ml m.ins=30
 ja:∀ x∈m.jobs,x.2.ahead=false
theorem zvd (m:Mk):ml m.fin.ins=30:=by
 show ml (m.ins++[ix 30 0 0 0])=30
 unfold ml;rw[List.getLast?_append];rfl
theorem Rt.setW {O Fl:Nat→Prop}{m:Mk}(h:Rt O Fl m){j:Nat}(f:Wt→Wt)(hj:Fl j)(hn:¬kk m j)(hf:∀ w,m.ws[j]? = some w→(f w).entry=w.entry):Rt O Fl (m.setW j f):=by
 have A0:(m.setW j f).ws.length=m.ws.length:=by simp[Mk.setW]
 have A1:∀ i,(m.setW j f).ws[i]? = if j=i then(m.ws[i]?).map f else m.ws[i]?:=fun i=>by
  show(m.ws.modify j f)[i]? = _
  rw[List.getElem?_modify];split<;>simp
 refine⟨fun p x hx=>by rw[A0]; exact h.ins p x hx,fun p x hx ho=>?_,fun i w hw=>?_,fun x hx=>?_,h.nd⟩
 ·obtain⟨i,e,h1⟩:=h.calls p x hx ho;refine⟨i,e,h1.imp id fun⟨w,h2,h3⟩=>?_⟩;rw[A1];split
  ·rename_i e2;subst e2;exact⟨f w,by rw[h2]; rfl,by rw[hf w h2]; exact h3⟩
  ·exact⟨w,h2,h3⟩
 ·rw[A1] at hw;split at hw
  ·rename_i e2;subst e2;exact .inr (.inl hj)
  ·exact h.waits i w hw
 ·rw[A1,if_neg fun e=>hn ⟨x,hx,e.symm⟩];exact h.jobs x hx
theorem Rt.begin {m:Mk}{j:Nat}{t:T}{r:List (Nat × T)}(h:Rt NoW NoW m)(e:m.jobs=(j,t)::r)(h0:0<m.ins.length):Rt NoW (fun i=>i=j) (waitIn j (aw m r))∧(waitIn j (aw m r)).ws[j]? = some ⟨m.ins.length,0,txt0,0,0⟩:=by
 have A4:(waitIn j (aw m r)).ws.length=m.ws.length:=by simp[waitIn,Mk.setW,Mk.fresh,aw]
 have A1:∀ i,(waitIn j (aw m r)).ws[i]? = if j=i then(m.ws[i]?).map (fun w=>{ w with entry:=m.ins.length }) else m.ws[i]?:=fun i=>by
  show(m.ws.modify j _)[i]? = _
  rw[List.getElem?_modify];split<;>simp<;>rfl
 have A2:m.ws[j]? = some wt0:=h.jobs (j,t) (by rw[e]; exact List.mem_cons_self ..);have A3:=h.nd;rw[e,List.map_cons,List.nodup_cons] at A3;have A0:∀ i,kk m i→i=j∨kk (waitIn j (aw m r)) i:=fun i ⟨x,hx,e2⟩=>by
  rw[e] at hx;rcases List.mem_cons.1 hx with rfl|hx
  ·exact .inl e2.symm
  ·exact .inr ⟨x,hx,e2⟩
 refine⟨⟨fun p x hx=>by rw[A4]; exact h.ins p x hx,fun p x hx ho=>?_,fun i w hw=>?_,fun x hx=>?_,A3.2⟩,by rw[A1,if_pos rfl,A2]; rfl⟩
 ·obtain⟨i,e2,h1⟩:=h.calls p x hx ho;have hp:p<m.ins.length:=(List.getElem?_eq_some_iff.1 hx).1;refine⟨i,e2,?_⟩;rcases h1 with h1|⟨w,h2,h3⟩
  ·rcases A0 i h1 with rfl|h2
   ·refine .inr ⟨_,by rw[A1,if_pos rfl,A2]; rfl,?_⟩;show(p:Int)<(m.ins.length:Int)
    omega
   ·exact .inl h2
  ·by_cases hi:j=i
   ·subst hi;refine .inr ⟨_,by rw[A1,if_pos rfl,A2]; rfl,?_⟩;show(p:Int)<(m.ins.length:Int)
    omega
   ·exact .inr ⟨w,by rw[A1,if_neg hi]; exact h2,h3⟩
 ·by_cases hi:j=i
  ·exact .inr (.inl hi.symm)
  ·rw[A1,if_neg hi] at hw;rcases h.waits i w hw with h1|h1|h1
   ·rcases A0 i h1 with h2|h2
    ·exact absurd h2.symm hi
    ·exact .inl h2
   ·exact absurd h1 id
   ·exact .inr (.inr h1)
 ·have A5:x∈r:=hx;rw[A1,if_neg fun e2=>A3.1 (by have h5:=List.mem_map_of_mem (f:=Prod.fst) A5; rw[←e2] at h5; exact h5)];exact h.jobs x (by rw[e]; exact List.mem_cons_of_mem _ A5)
theorem xe {O Fl:Nat→Prop}{m:Mk}{j:Nat}{w:Wt}(h:Rt O Fl m)(hw:m.ws[j]? = some w)(he:w.entry≠0):¬kk m j:=by
 rintro⟨x,hx,e⟩;have h1:=h.jobs x hx;rw[e,hw] at h1;cases h1;exact he rfl
theorem ta {m m':Mk}{j:Nat}{w:Wt}(h:Ext m m')(hw:m.ws[j]? = some w):m'.ws[j]? = some w:=by
 obtain⟨l,hl⟩:=h.ws;rw[←hl,List.getElem?_append_left (List.getElem?_eq_some_iff.1 hw).1];exact hw
theorem Rt.close {Fl:Nat→Prop}{m:Mk}(h:Rt NoW Fl m)(hf:∀ j,Fl j→∀ w,m.ws[j]? = some w→WOk (m.ins.length+1) w)(hr:m.regs≤256)(hj:∀ x∈m.jobs,x.2.ahead=false):Bd m.fin:=by
 have hl:m.fin.ins.length=m.ins.length+1:=ah _ _;have g:=h.plain (x:=ix 30 0 0 0) f30 rfl rfl (by show(30:Int)≠29; decide);refine⟨⟨g.ins,g.calls,fun j w hw=>?_,g.jobs,g.nd⟩,fun p x hx hu=>?_,hr,zvd m,hj⟩
 ·rcases g.waits j w hw with h1|h1|h1
  ·exact .inl h1
  ·exact .inr (.inr (by rw[hl]; exact hf j h1 w hw))
  ·exact .inr (.inr h1)
 ·have A0:(m.ins++[ix 30 0 0 0])[p]? = some x:=hx;by_cases hp:p<m.ins.length
  ·rw[List.getElem?_append_left hp] at A0;have h1:=(h.ins p x A0).2;unfold toF at h1;rw[if_pos hu] at h1;rcases h1 with h1|h1
   ·exact absurd h1 id
   ·omega
  ·have A1:=(List.getElem?_eq_some_iff.1 A0).1;simp at A1;obtain rfl:p=m.ins.length:=by omega
   simp at A0;subst A0;cases hu
theorem zes {Fl:Nat→Prop}:∀(l:List Nat) (m:Mk),Rt (fun q=>q∈l) Fl m→(∀ p∈l,OpenAt m p)→Rt NoW Fl (hereAll m l)
 | [],m,h,_=>h.weak fun q hq=>by cases hq
 |p::r,m,h,ho=>by
  refine zes r (m.here p) ((h.here (ho p (List.mem_cons_self ..))).weak fun q hq=>?_) fun q hq=>(ho q (List.mem_cons_of_mem _ hq)).ext ((Ext.refl m).here p);obtain⟨h1,h2⟩:=hq;rcases List.mem_cons.1 h1 with h1|h1
  ·exact absurd h1 h2
  ·exact h1
theorem zae:∀(l:List Nat) (m:Mk),(hereAll m l).ws=m.ws∧(hereAll m l).jobs=m.jobs∧(hereAll m l).regs=m.regs∧(hereAll m l).ins.length=m.ins.length
 | [],m=>⟨rfl,rfl,rfl,rfl⟩
 |p::r,m=>by
  obtain⟨h1,h2,h3,h4⟩:=zae r (m.here p);exact⟨h1,h2,h3,h4.trans (ak m p)⟩
theorem zao {m:Mk}{j:Nat}{U:List Nat}{e d:Int}(h:Rt (fun q=>q∈U) (fun i=>i=j) m)(ho:∀ p∈U,OpenAt m p)(hw:m.ws[j]? = some ⟨e,d,txt0,0,0⟩)(he:0<e∧e≤m.ins.length)(hd:0≤d)(hr:m.regs≤256)(hj:∀ x∈m.jobs,x.2.ahead=false):Bd (again j m U):=by
 have A5:=xe h hw (by show e≠0; omega);have g1:=h.setW (fun w=>{ w with day:=cv w.day }) rfl A5 (fun w _=>rfl);have A3:(m.setW j fun w=>{ w with day:=cv w.day }).ws[j]? = some ⟨e,cv d,txt0,0,0⟩:=by
  show(m.ws.modify j _)[j]? = _
  rw[List.getElem?_modify,hw];simp
 have g2:=g1.plain (x:=ix 30 0 0 0) f30 rfl rfl (by show(30:Int)≠29; decide);have g3:=zes U (m.setW j fun w=>{ w with day:=cv w.day }).fin g2 (fun p hp=>(show OpenAt (m.setW j fun w=>{ w with day:=cv w.day }) p from ho p hp).ext ((Ext.refl _).fin));obtain⟨k1,k2,k3,k4⟩:=zae U (m.setW j fun w=>{ w with day:=cv w.day }).fin;have A6:j<(m.setW j fun w=>{ w with day:=cv w.day }).ws.length:=(List.getElem?_eq_some_iff.1 A3).1;have g4:=g3.plain (x:=ix 28 0 0 j) (f28 (by rw[k1]; exact A6)) rfl rfl (by show(28:Int)≠29; decide);have A7:(m.setW j fun w=>{ w with day:=cv w.day }).fin.ins.length=m.ins.length+1:=ah _ _;unfold again;refine g4.close (fun i hi w A4=>?_) (by show(hereAll _ U).regs≤256; rw[k3]; exact hr) (fun x hx=>hj x (by have:x∈(hereAll _ U).jobs:=hx; rw[k2] at this; exact this));subst hi;have A1:(hereAll _ U).ws[i]? = some w:=A4;rw[k1] at A1;have A0:(m.setW i fun w=>{ w with day:=cv w.day }).ws[i]? = some w:=A1;rw[A3] at A0;cases A0;have A2:0≤cv d∧cv d≤73048:=by unfold cv; split<;>omega
 refine⟨⟨by show 0≤e; omega,?_⟩,A2,.inl ⟨rfl,rfl,rfl⟩⟩;show e<_
 rw[ah,k4,A7];omega
theorem ue {op n:Int}{s:ByteArray}{ks:List T}(h:(T.mk op n s ks).letter=99)(ho:op=29∨op=30∨op=31):0≤n∧n≤73048:=by
 obtain⟨-,hf⟩:=letter_inv h (by decide) (by omega);rcases ho with rfl|rfl|rfl
 ·exact sq (.inr (.inl rfl)) hf
 ·exact sq (.inr (.inr rfl)) hf
 ·simp[fields,Gen.within] at hf;omega
theorem zgs {n:Int}{s:ByteArray}{ks:List T}(h:(T.mk 31 n s ks).letter=99):Led.isName s=true:=by
 obtain⟨-,hf⟩:=letter_inv h (by decide) (by decide);simp[fields] at hf;exact hf.1
theorem zaj {con:T→Mk→Mk}(r:Int)(t:T)(m:Mk)(hc:∀(t:T) (m:Mk),Ext m (con t m)):Ext m (either con r t m):=by
 obtain⟨A,B,C,D,hA,hB,hC,hD,e⟩:=cm con r t m;have h1:Ext m A:=by rw[hA]; exact(Ext.refl m).lay _
 have h2:Ext m B:=by rw[hB]; exact h1.trans (hc _ _)
 have h3:Ext m C:=by rw[hC]; exact((h2.back _).lay _).here _
 have h4:Ext m D:=by rw[hD]; exact h3.trans (hc _ _)
 rw[e];exact(h4.back _).here _
theorem zob {con:T→Mk→Mk}(r:Int)(t:T)(m:Mk)(hc:∀(t:T) (m:Mk),m.ws.length≤(con t m).ws.length∧m.ins.length≤(con t m).ins.length):m.ins.length≤(either con r t m).ins.length:=by
 obtain⟨A,B,C,D,hA,hB,hC,hD,e⟩:=cm con r t m;have h1:=(hc (t.kid 1) A).2;have h2:=(hc (t.kid 2) C).2;rw[←hB] at h1;rw[←hD] at h2;rw[e,ak,ao];have e1:A.ins.length=m.ins.length+1:=by rw[hA]; exact ah _ _
 have e2:C.ins.length=B.ins.length+1:=by rw[hC,ak,ah,ao]
 omega
theorem qe {O Fl:Nat→Prop}{t:T}{m:Mk}(hx:t.letter=99)(hd:t.depth≤200)(A0:t.ahead=false)(h0:0≤m.next)(h:Rt O Fl m):CoRt O Fl t.depth m (con false 200 t m):=zyv 200 t m O Fl hx hd A0 h0 h
set_option maxHeartbeats 1000000 in
theorem zwq {k:Nat}{m:Mk}{j:Nat}{t:T}{r:List (Nat × T)}(h:Bd m)(hs:St k m)(e:m.jobs=(j,t)::r)(h0:0<m.ins.length):Bd (wait false j t (aw m r)):=by
 obtain⟨hj,hx,hw,hd⟩:=hs.job e;have D0:=h.ja (j,t) (by rw[e]; exact List.mem_cons_self ..);obtain⟨hb,A3⟩:=h.rt.begin e h0;have A6:∀ x∈(waitIn j (aw m r)).jobs,x.2.ahead=false:=fun x hx=>h.ja x (by rw[e]; exact List.mem_cons_of_mem _ hx);have C0:(waitIn j (aw m r)).regs≤256:=h.rg;have C1:(waitIn j (aw m r)).next=0:=rfl;have C9:(waitIn j (aw m r)).ins.length=m.ins.length:=rfl;have C2:=xe hb A3 (by show(m.ins.length:Int)≠0; omega);generalize hI:waitIn j (aw m r)=I at *;obtain⟨op,n,s,ks⟩:=t;obtain⟨-,A2⟩:=zan D0;have A1:∀ k∈ks,k.depth≤200:=fun k hk=>by
  have h1:=em hk;rw[zak] at hd;omega
 rcases bz hx with(⟨rfl,rfl⟩|⟨rfl,rfl⟩)|⟨h1,a,rfl,ha⟩|⟨rfl,o,a,rfl,ho,ha⟩|⟨h1,a,b,rfl,ha,B8⟩|⟨rfl,o,a,b,rfl,ho,ha,B8⟩|⟨rfl,o,a,rfl,ho,ha⟩
 ·rw[bv (by omega)] at hw; cases hw
 ·rw[bv (by omega)] at hw; cases hw
 ·rcases h1 with rfl|rfl
  ·rw[bv (by omega)] at hw; cases hw
  ·have A0:=ue hx (.inl rfl);rw[kg rfl,ay,hI];have g1:=(hb.setW (fun w=>{ w with day:=n }) rfl C2 (fun w _=>rfl)).jump (x:=ix 22 0 0 n) (f22 A0) rfl (by show(22:Int)≠29; decide);have o1:OpenAt ((I.setW j fun w=>{ w with day:=n }).lay (ix 22 0 0 n)) I.ins.length:=OpenAt.lay (I.setW j fun w=>{ w with day:=n }) rfl;have B1:((I.setW j fun w=>{ w with day:=n }).lay (ix 22 0 0 n)).ws[j]? = some ⟨m.ins.length,n,txt0,0,0⟩:=by
    show(I.ws.modify j _)[j]? = _
    rw[List.getElem?_modify,A3];simp
   have C5:((I.setW j fun w=>{ w with day:=n }).lay (ix 22 0 0 n)).next=0:=C1;have C4:((I.setW j fun w=>{ w with day:=n }).lay (ix 22 0 0 n)).regs≤256:=C0;have B5:∀ x∈((I.setW j fun w=>{ w with day:=n }).lay (ix 22 0 0 n)).jobs,x.2.ahead=false:=A6;have C7:((I.setW j fun w=>{ w with day:=n }).lay (ix 22 0 0 n)).ins.length=m.ins.length+1:=by rw[ah]; show I.ins.length+1=_; omega
   show Bd (again j (con false 200 a ((I.setW j fun w=>{ w with day:=n }).lay (ix 22 0 0 n))) [I.ins.length])
   have hc:=qe ha (A1 a (by simp)) (A2 a (by simp)) (by omega) (g1.weak (O':=fun q=>q∈[I.ins.length]) fun q hq=>by rcases hq with h|h; exact absurd h id; rw[List.mem_singleton]; exact h);have he:=fw false 200 a ((I.setW j fun w=>{ w with day:=n }).lay (ix 22 0 0 n));have hl:=(kq false 200 a ((I.setW j fun w=>{ w with day:=n }).lay (ix 22 0 0 n))).2;generalize con false 200 a ((I.setW j fun w=>{ w with day:=n }).lay (ix 22 0 0 n))=C at *;have c2:=hc.hi;have A4:=A1 a (by simp);exact zao hc.rt (fun p hp=>by rw[List.mem_singleton] at hp; subst hp; exact o1.ext he) (ta he B1) ⟨by omega,by omega⟩ A0.1 (by omega) (fun x hx=>(hc.ja x hx).elim (B5 x) id)
 ·rw[fx rfl,ay,bx,hI];have go:=zbi 200 o I [] NoW (fun i=>i=j) (dc ho) (A1 o (by simp)) (A2 o (by simp)) (by omega) hb.ornil;have eo:=jg false 200 o I [];have lo:=bm false 200 o I [];have jo:=mn (dr false 200 o I []);generalize obs false 200 o I []=A at *;have a1:=go.r;have a2:=go.nx;have a3:=go.lo;have a4:=go.mo;have a5:=go.hi;have B6:=A1 o (by simp);have g1:=go.rt.plain (x:=ix 23 0 A.1 0) (f23 ⟨by omega,by omega⟩) rfl rfl (by show(23:Int)≠29; decide);have hc:=qe ha (A1 a (by simp)) (A2 a (by simp)) (by show 0≤A.2.1.next; omega) (g1.weak (O':=fun q=>q∈A.2.2) fun q hq=>hq.elim (fun h=>absurd h id) id);have he:=fw false 200 a (A.2.1.lay (ix 23 0 A.1 0));have hl:=(kq false 200 a (A.2.1.lay (ix 23 0 A.1 0))).2;rw[ah] at hl;have e1:(A.2.1.lay (ix 23 0 A.1 0)).next=A.2.1.next∧(A.2.1.lay (ix 23 0 A.1 0)).regs=A.2.1.regs∧(A.2.1.lay (ix 23 0 A.1 0)).jobs=A.2.1.jobs:=⟨rfl,rfl,rfl⟩
  generalize con false 200 a (A.2.1.lay (ix 23 0 A.1 0))=C at *;have c2:=hc.hi;have A4:=A1 a (by simp);exact zao hc.rt (fun p hp=>by
   rcases go.op p hp with h|h
   ·cases h
   ·exact h.ext (((Ext.refl _).lay _).trans he)) (ta (eo.trans (((Ext.refl _).lay _).trans he)) A3) ⟨by omega,by omega⟩ (Int.le_refl _) (by omega) (fun x hx=>by
    rcases hc.ja x hx with h|h
    ·rw[e1.2.2,jo] at h; exact A6 x h
    ·exact h)
 ·rcases h1 with rfl|rfl
  ·rw[bv (by omega)] at hw; cases hw
  ·have A0:=ue hx (.inr (.inr rfl));have A5:=zgs hx;rw[ij rfl,hI];obtain⟨A,C,B,D,hA,hC,hB,hD,e2⟩:=ko false j (T.mk 31 n s [a,b]) I;rw[ay] at hC;rw[bx] at hD;have A4:=A1 a (by simp);have B7:=A1 b (by simp);have gA:Rt (fun q=>NoW q∨q=I.ins.length) (fun i=>i=j) A:=by
    rw[hA];have C8:j<I.ws.length:=(List.getElem?_eq_some_iff.1 A3).1;exact((hb.jump (x:=ix 21 0 0 n) (f21 A0) rfl (by show(21:Int)≠29; decide)).plain (x:=ix 28 0 0 j) (f28 C8) rfl rfl (by show(28:Int)≠29; decide)).plain (x:=ix 30 0 0 0) f30 rfl rfl (by show(30:Int)≠29; decide)
   have eA:Ext I A:=by rw[hA]; exact(((Ext.refl I).lay _).lay _).fin
   have oA:OpenAt A I.ins.length:=by rw[hA]; exact(OpenAt.lay I (x:=ix 21 0 0 n) rfl).ext (((Ext.refl _).lay _).fin)
   have lA:A.ins.length=I.ins.length+3:=by rw[hA]; unfold Mk.fin; rw[ah,ah,ah]
   have nA:A.next=I.next∧A.regs=I.regs∧A.jobs=I.jobs:=by rw[hA]; exact⟨rfl,rfl,rfl⟩
   have gA2:=gA.jump (x:=ix 21 0 0 n) (f21 A0) rfl (by show(21:Int)≠29; decide);have oA2:OpenAt (A.lay (ix 21 0 0 n)) A.ins.length:=OpenAt.lay A rfl;have hc:=qe ha A4 (A2 a (by simp)) (by show 0≤A.next; omega) gA2;have he:=fw false 200 a (A.lay (ix 21 0 0 n));have hl:=(kq false 200 a (A.lay (ix 21 0 0 n))).2;rw[ah] at hl;change C=con false 200 a (A.lay (ix 21 0 0 n)) at hC
   rw[←hC] at hc he hl;have c2:=hc.hi;have c3:=hc.mo;have e3:(A.lay (ix 21 0 0 n)).next=A.next∧(A.lay (ix 21 0 0 n)).regs=A.regs∧(A.lay (ix 21 0 0 n)).jobs=A.jobs:=⟨rfl,rfl,rfl⟩
   have eAC:Ext A C:=((Ext.refl A).lay _).trans he;have gB:Rt NoW (fun i=>i=j) B:=by
    rw[hB];have h2:=(hc.rt.plain (x:=ix 30 0 0 0) f30 rfl rfl (by show(30:Int)≠29; decide)).here (p:=I.ins.length) ((oA.ext eAC).ext (Ext.refl C).fin);have h3:=h2.here (p:=A.ins.length) ((oA2.ext he).ext ((Ext.refl C).fin.here _));exact h3.weak fun q hq=>by
     obtain⟨⟨h4,h5⟩,h6⟩:=hq;rcases h4 with(h4|h4)|h4
     ·exact h4
     ·exact absurd h4 h5
     ·exact absurd h4 h6
   have lB:B.ins.length=C.ins.length+1:=by rw[hB,ak,ak]; exact ah _ _
   have nB:B.regs=C.regs∧B.jobs=C.jobs:=by rw[hB]; exact⟨rfl,rfl⟩
   have eCB:Ext C B:=by rw[hB]; exact((Ext.refl C).fin.here _).here _
   have gF:Rt NoW (fun i=>i=j) B.fresh:=gB.same rfl rfl rfl (Int.le_refl _);have A8:=qe B8 B7 (A2 b (by simp)) (by show(0:Int)≤0; omega) gF;have C3:=fw false 200 b B.fresh;have C6:=(kq false 200 b B.fresh).2;rw[←hD] at A8 C3 C6;have e4:B.fresh.next=0∧B.fresh.regs=B.regs∧B.fresh.jobs=B.jobs∧B.fresh.ins.length=B.ins.length:=⟨rfl,rfl,rfl,rfl⟩
   have d2:=A8.hi;have eD:Ext I D:=eA.trans (eAC.trans (eCB.trans (((Ext.refl B).fresh).trans C3)));have B0:=ta eD A3;have B4:=xe A8.rt B0 (by show(m.ins.length:Int)≠0; omega);have B3:=A8.rt.setW (fun _=>⟨I.ins.length,cv (n+1),s,A.ins.length,B.ins.length⟩) rfl B4 (fun w hw=>by rw[B0] at hw; cases hw; show(I.ins.length:Int)=_; rw[C9]);rw[e2];show Bd ((D.setW j fun _=>⟨I.ins.length,cv (n+1),s,A.ins.length,B.ins.length⟩).fin)
   refine B3.close (fun i hi w hw=>?_) (by show D.regs≤256; omega) (fun x hx=>?_)
   ·subst hi;have B2:(D.ws.modify i _)[i]? = some w:=hw;rw[List.getElem?_modify,B0] at B2;simp only[if_pos rfl,Option.map_some,Option.some.injEq,if_true,Functor.map] at B2;subst B2;have A7:0≤cv (n+1)∧cv (n+1)≤73048:=by unfold cv; split<;>omega
    have B9:(D.setW i fun _=>(⟨I.ins.length,cv (n+1),s,A.ins.length,B.ins.length⟩:Wt)).ins.length=D.ins.length:=rfl;refine⟨⟨by show(0:Int)≤(I.ins.length:Int); omega,by show(I.ins.length:Int)<_; rw[B9]; omega⟩,A7,.inr ⟨A5,⟨by show(0:Int)≤(A.ins.length:Int); omega,by show(A.ins.length:Int)<_; rw[B9]; omega⟩,by show(0:Int)≤(B.ins.length:Int); omega,by show(B.ins.length:Int)<_; rw[B9]; omega⟩⟩
   ·have A9:x∈D.jobs:=hx;rcases A8.ja x A9 with h|h
    ·rw[e4.2.2.1,nB.2] at h;rcases hc.ja x h with h|h
     ·rw[e3.2.2,nA.2.2] at h; exact A6 x h
     ·exact h
    ·exact h
 ·rw[kf rfl,ay,hI];have go:=zbi 200 o I [] NoW (fun i=>i=j) (cf ho) (A1 o (by simp)) (A2 o (by simp)) (by omega) hb.ornil;have eo:=jg false 200 o I [];have lo:=bm false 200 o I [];have jo:=mn (dr false 200 o I []);generalize obs false 200 o I []=A at *;have a1:=go.r;have a2:=go.nx;have a3:=go.lo;have a4:=go.mo;have a5:=go.hi;have B6:=A1 o (by simp);have A4:=A1 a (by simp);have B7:=A1 b (by simp);have hc:=zhe (con:=con false 200) (t:=T.mk 28 n s [o,a,b]) (r:=A.1) (Da:=a.depth) (Db:=b.depth) (go.rt.weak (O':=fun q=>q∈A.2.2) fun q hq=>hq.elim (fun h=>absurd h id) id) ⟨by omega,by omega⟩
   (fun O m h=>⟨fw false 200 _ m,fun h0=>by rw[bx]; exact qe ha A4 (A2 a (by simp)) h0 h⟩) (fun O m h=>⟨fw false 200 _ m,fun h0=>by rw[ng]; exact qe B8 B7 (A2 b (by simp)) h0 h⟩) (by omega)
  have he:=zaj A.1 (T.mk 28 n s [o,a,b]) A.2.1 (fw false 200);have hl:=(zob A.1 (T.mk 28 n s [o,a,b]) A.2.1 (kq false 200))
  generalize either (con false 200) A.1 (T.mk 28 n s [o,a,b]) A.2.1=C at *;have c2:=hc.hi;exact zao hc.rt (fun p hp=>by
   rcases go.op p hp with h|h
   ·cases h
   ·exact h.ext he) (ta (eo.trans he) A3) ⟨by omega,by omega⟩ (Int.le_refl _) (by omega) (fun x hx=>by
    rcases hc.ja x hx with h|h
    ·rw[jo] at h; exact A6 x h
    ·exact h)
 ·have A0:=ue hx (.inr (.inl rfl));rw[ii rfl,ay,bx,hI];have g1:=(hb.setW (fun w=>{ w with day:=n+1 }) rfl C2 (fun w _=>rfl)).jump (x:=ix 21 0 0 n) (f21 A0) rfl (by show(21:Int)≠29; decide);have o1:OpenAt ((I.setW j fun w=>{ w with day:=n+1 }).lay (ix 21 0 0 n)) I.ins.length:=OpenAt.lay (I.setW j fun w=>{ w with day:=n+1 }) rfl;have B1:((I.setW j fun w=>{ w with day:=n+1 }).lay (ix 21 0 0 n)).ws[j]? = some ⟨m.ins.length,n+1,txt0,0,0⟩:=by
   show(I.ws.modify j _)[j]? = _
   rw[List.getElem?_modify,A3];simp
  have C5:((I.setW j fun w=>{ w with day:=n+1 }).lay (ix 21 0 0 n)).next=0:=C1;have C4:((I.setW j fun w=>{ w with day:=n+1 }).lay (ix 21 0 0 n)).regs≤256:=C0;have B5:∀ x∈((I.setW j fun w=>{ w with day:=n+1 }).lay (ix 21 0 0 n)).jobs,x.2.ahead=false:=A6;have C7:((I.setW j fun w=>{ w with day:=n+1 }).lay (ix 21 0 0 n)).ins.length=m.ins.length+1:=by rw[ah]; show I.ins.length+1=_; omega
  change Bd (again j ((con false 200 a ((obs false 200 o ((I.setW j fun w=>{ w with day:=n+1 }).lay (ix 21 0 0 n)) []).2.1.lay (ix 19 0 (obs false 200 o ((I.setW j fun w=>{ w with day:=n+1 }).lay (ix 21 0 0 n)) []).1 0))).here I.ins.length) ((obs false 200 o ((I.setW j fun w=>{ w with day:=n+1 }).lay (ix 21 0 0 n)) []).2.2++[(obs false 200 o ((I.setW j fun w=>{ w with day:=n+1 }).lay (ix 21 0 0 n)) []).2.1.ins.length]))
  generalize (I.setW j fun w=>{ w with day:=n+1 }).lay (ix 21 0 0 n)=Q at *;have B6:=A1 o (by simp);have A4:=A1 a (by simp);have go:=zbi 200 o Q [] (fun q=>q=I.ins.length) (fun i=>i=j) (cf ho) B6 (A2 o (by simp)) (by omega) (g1.weak fun q hq=>hq.elim (fun h=>absurd h id) .inl);have eo:=jg false 200 o Q [];have lo:=bm false 200 o Q [];have jo:=mn (dr false 200 o Q []);generalize obs false 200 o Q []=A at *;have a1:=go.r;have a2:=go.nx;have a3:=go.lo;have a4:=go.mo;have a5:=go.hi;have g2:=go.rt.jump (x:=ix 19 0 A.1 0) (f19 ⟨by omega,by omega⟩) rfl (by show(19:Int)≠29; decide);have o2:OpenAt (A.2.1.lay (ix 19 0 A.1 0)) A.2.1.ins.length:=OpenAt.lay A.2.1 rfl;have hc:=qe ha A4 (A2 a (by simp)) (by show 0≤A.2.1.next; omega) g2;have he:=fw false 200 a (A.2.1.lay (ix 19 0 A.1 0));have hl:=(kq false 200 a (A.2.1.lay (ix 19 0 A.1 0))).2;rw[ah] at hl;have e1:(A.2.1.lay (ix 19 0 A.1 0)).next=A.2.1.next∧(A.2.1.lay (ix 19 0 A.1 0)).regs=A.2.1.regs∧(A.2.1.lay (ix 19 0 A.1 0)).jobs=A.2.1.jobs:=⟨rfl,rfl,rfl⟩
  generalize con false 200 a (A.2.1.lay (ix 19 0 A.1 0))=C at *;have c2:=hc.hi;have ex:Ext Q C:=eo.trans (((Ext.refl _).lay _).trans he);have hh:=hc.rt.here (p:=I.ins.length) (o1.ext ex);have D1:=ak C I.ins.length;refine zao (hh.weak (O':=fun q=>q∈A.2.2++[A.2.1.ins.length]) fun q hq=>?_) (fun p hp=>?_) (show(C.here I.ins.length).ws[j]? = some ⟨m.ins.length,n+1,txt0,0,0⟩ by have h5:=ta ex B1; exact h5) ⟨by omega,by omega⟩ (by omega) (by show C.regs≤256; omega) (fun x hx=>?_)
  ·obtain⟨h1,h2⟩:=hq;rcases h1 with(h1|h1)|h1
   ·exact absurd h1 h2
   ·exact List.mem_append_left _ h1
   ·exact List.mem_append_right _ (by rw[List.mem_singleton]; exact h1)
  ·rcases List.mem_append.1 hp with h1|h1
   ·rcases go.op p h1 with h|h
    ·cases h
    ·exact h.ext ((((Ext.refl _).lay _).trans he).here _)
   ·rw[List.mem_singleton] at h1;subst h1;exact o2.ext (he.here _)
  ·have A9:x∈C.jobs:=hx;rcases hc.ja x A9 with h|h
   ·rw[e1.2.2,jo] at h; exact B5 x h
   ·exact h
theorem zvc {t:T}(hx:t.letter=99)(hd:t.depth≤200)(A0:t.ahead=false):Bd (con false 200 t mk0).fin:=by
 have h0:Rt NoW NoW mk0:=⟨fun p x hx=>by simp[mk0] at hx,fun p x hx=>by simp[mk0] at hx,fun j w hw=>by simp[mk0] at hw,fun x hx=>by simp[mk0] at hx,by simp[mk0]⟩
 have hc:=qe hx hd A0 (by decide) h0;have h1:=hc.hi;have e1:mk0.regs=0∧mk0.next=0:=⟨rfl,rfl⟩
 exact hc.rt.close (fun j hj=>absurd hj id) (by omega) (fun x hx=>by
  rcases hc.ja x hx with h|h
  ·simp[mk0] at h
  ·exact h)
theorem zrs {t:T}(hx:t.letter=99)(sh:Bool):qv (jw (con sh 200 t mk0).fin)≤dd t:=by
 have:=nl sh 200 t mk0 hx;have e:qv (jw mk0)=0:=rfl;show qv (jw (con sh 200 t mk0))≤_
 omega
def Mk.code (m:Mk):Cd:=⟨m.regs,m.ws,m.ins⟩
theorem zgh {n a b:Int}(h:a≤n∧n≤b):within n a b=true:=by
 unfold within;rw[decide_eq_true h.1,decide_eq_true h.2];rfl
theorem zvs {m:Mk}(h:Bd m)(hj:m.jobs=[])(hr:0≤m.regs)(hl:1≤m.ins.length∧m.ins.length≤16384)(hw:m.ws.length≤250):Gen.right m.code=true:=by
 have A1:∀ j,¬kk m j:=fun j ⟨x,hx,_⟩=>by rw[hj] at hx; cases hx
 unfold Gen.right;simp only[Bool.and_eq_true,decide_eq_true_eq,List.all_eq_true];refine⟨zgh ⟨hr,h.rg⟩,hw,hl.1,hl.2,h.ls,fun w hw=>?_,fun p hp=>?_⟩
 ·obtain⟨i,hi⟩:=List.getElem?_of_mem (show w∈m.ws from hw);have hk:WOk m.ins.length w:=by
   rcases h.rt.waits i w hi with h1|h1|h1
   ·exact absurd h1 (A1 i)
   ·exact absurd h1 id
   ·exact h1
  have he:=hk.e;have hp:∀ n:Int,0≤n∧n<m.ins.length→place m.code n=true:=fun n h=>by
   unfold place;rw[decide_eq_true h.1,show decide (n<(m.code.ins.length:Int))=true from decide_eq_true h.2];rfl
  unfold kz;rw[hp _ he,zgh hk.d];rcases hk.l with⟨h1,h2,h3⟩|⟨h1,h2,h3⟩
  ·rw[if_pos (show w.label=⟨#[]⟩ from h1),decide_eq_true h2,decide_eq_true h3];rfl
  ·rw[if_neg (show ¬w.label=⟨#[]⟩ from fun e=>by rw[e] at h1; exact absurd h1 (by decide +kernel)),h1,hp _ h2,hp _ h3];rfl
 ·obtain⟨x,i⟩:=p;rw[List.mem_iff_getElem?] at hp;obtain⟨q,hq⟩:=hp;rw[List.getElem?_zipIdx] at hq;obtain⟨y,hy,e⟩:=Option.map_eq_some_iff.1 hq;simp only[Prod.mk.injEq] at e;obtain⟨rfl,rfl⟩:=e;have A0:m.ins[q]? = some y:=hy;obtain⟨h1,h2⟩:=h.rt.ins q y A0;have h3:=h.st q y A0;simp only[Nat.zero_add];unfold ixF at h1;simp only[Bool.and_eq_true,decide_eq_true_eq] at h1;obtain⟨a1,a2,a3,a4,a5,a6,a7⟩:=h1;unfold insOk;have ht:uj m.code (q:Int) y=true:=by
   unfold uj;unfold toF at h2;split at h2
   ·rename_i hu;rw[if_pos hu];rcases h2 with h2|h2
    ·exact absurd h2 id
    ·rw[decide_eq_true h2.1,show decide (y.to<(m.code.ins.length:Int))=true from decide_eq_true (h3 hu)];rfl
   ·rename_i hu;rw[if_neg hu];exact decide_eq_true h2
  have hn:el m.code (q:Int) y=true:=by
   unfold jt at a6;unfold el;split at a6
   ·rename_i g1; rw[if_pos g1]; exact a6
   rename_i g1;rw[if_neg g1];split at a6
   ·rename_i g2; rw[if_pos g2]; exact a6
   rename_i g2;rw[if_neg g2];split at a6
   ·rename_i g3; rw[if_pos g3]; exact a6
   rename_i g3;rw[if_neg g3];split at a6
   ·rename_i g4;rcases g4 with g4|g4
    ·rw[if_pos g4]; exact a6
    ·rw[if_neg (by omega),if_pos g4];have A3:within y.n 0 (m.code.waits.length - 1)=true:=a6;rw[A3];obtain⟨j,e1,e2⟩:=h.rt.calls q y A0 g4;rcases e2 with e2|⟨w,e2,e3⟩
     ·exact absurd e2 (A1 j)
     ·have:dq m.code y.n=w.entry:=by
       unfold dq;rw[e1,Int.toNat_natCast];have A2:m.code.waits[j]? = some w:=e2;rw[A2]
      rw[this];simpa using e3
   ·rename_i g4;rw[if_neg (by omega),if_neg (by omega)];exact a6
  have b1:fld (eg y.op) y.a m.code.regs=true:=a3;have b2:fld (fk y.op) y.b m.code.regs=true:=a4;have b3:fld (gg y.op) y.c m.code.regs=true:=a5;rw[decide_eq_true a1,decide_eq_true a2,b1,b2,b3,ht,hn,a7];rfl
theorem znl {t:T}(hx:t.letter=99)(hd:t.depth≤200)(hs:t.size≤2000)(A2:t.ahead=false)(hm:dd t≤250):Gen.right (eu false t).code=true:=by
 obtain⟨hS,hT⟩:=zg false t hx hd;have hB:=zvc hx hd A2;have hL:0<(con false 200 t mk0).fin.ins.length:=by unfold Mk.fin; rw[ah]; omega
 obtain⟨⟨p1,p2,p3⟩,q,r⟩:=zmc (P:=fun m=>Bd m∧0<m.ins.length∧qv (jw m)≤dd t) false (k:=8 * t.size+1) (fun m j u r hs hp e=>by
  obtain⟨h1,h2,h3⟩:=hp;obtain⟨hj,A1,A0,A8⟩:=hs.job e;have A7:=(zlt false j u (aw m r)).ln;have A6:(waitIn j (aw m r)).ins.length=m.ins.length:=rfl;have A4:=zos false j u (aw m r) A1 A0;have A3:=zed A0;have A5:qv (jw m)=qv (jw (aw m r))+(dd u - 1):=by
   show m.ws.length+ms m.jobs=m.ws.length+ms r+_
   rw[e,ms];simp only;omega
  exact⟨zwq h1 hs e h2,by omega,by omega⟩) t.size _ hS ⟨hB,hL,zrs hx false⟩ hT
 refine zvs p1 r q.rg.1 ⟨p2,?_⟩ ?_
 ·have:=q.len; show(run false t.size (con false 200 t mk0).fin).ins.length≤16384; omega
 ·have:(run false t.size (con false 200 t mk0).fin).ws.length≤qv (jw (run false t.size (con false 200 t mk0).fin)):=Nat.le_add_right _ _;show(run false t.size (con false 200 t mk0).fin).ws.length≤250
  omega
end Gf
end
section
open Go.RowKit
namespace Sm
open Co Gen Dn Gf
def Lb (m:Mk):Prop:=∀ x∈m.jobs,∃ w,m.ws[x.1]? = some w∧w.label=txt0
theorem Lb.step {m m':Mk}(h:Lb m)(e:jw m'=jw m)(x:Ext m m'):Lb m':=fun y hy=>by
 have:m'.jobs=m.jobs:=congrArg Prod.fst e;rw[this] at hy;obtain⟨w,hw,hl⟩:=h y hy;exact⟨w,ta x hw,hl⟩
theorem Lb.call {m:Mk}(h:Lb m)(t:T):Lb (m.call t):=fun y hy=>by
 rcases List.mem_append.1 (show y∈m.jobs++[(m.ws.length,t)] from hy) with h1|h1
 ·obtain⟨w,hw,hl⟩:=h y h1;exact⟨w,ta ((Ext.refl m).call t) hw,hl⟩
 ·rw[List.mem_singleton] at h1;subst h1;exact⟨⟨0,0,txt0,0,0⟩,by show(m.ws++[_])[m.ws.length]? = _; simp,rfl⟩
theorem zfd (sh:Bool)(d:Nat):∀(t:T) (m:Mk),Lb m→Lb (con sh d t m):=by
 induction d with
 |zero=>intro t m h; exact h
 |succ d ih=>
  intro t m h;have ho:∀(t:T),Lb (obs sh d t m []).2.1:=fun t=>h.step (dr sh d t m []) (jg sh d t m []);have hl:∀ {m':Mk} (x:Ix),Lb m'→Lb (m'.lay x):=fun x h=>h.step rfl ((Ext.refl _).lay x);rw[con];split
  ·exact h.call t
  ·refine Lb.step ?_ (di _ sh _) ((Ext.refl _).free sh _);split
   ·exact hl _ h
   split
   ·exact ih _ _ (hl _ h)
   split
   ·exact ih _ _ (hl _ (ih _ _ (hl _ (h.step (m':=m.reg) rfl (Ext.refl m).reg))))
   split
   ·simp only;exact ih _ _ (hl _ (ho _))
   split
   ·simp only;obtain⟨A,B,C,D,hA,hB,hC,hD,e⟩:=cm (con sh d) (obs sh d (t.kid 0) m []).1 t (obs sh d (t.kid 0) m []).2.1;rw[e];have gA:Lb A:=by rw[hA]; exact hl _ (ho _)
    have gB:Lb B:=by rw[hB]; exact ih _ _ gA
    have gC:Lb C:=by rw[hC]; exact gB.step rfl ((((Ext.refl B).back A.known).lay (ix 20 0 0 0)).here _)
    have gD:Lb D:=by rw[hD]; exact ih _ _ gC
    exact gD.step rfl (((Ext.refl D).back C.known).here _)
   ·exact h
theorem zrl (sh:Bool)(d:Nat)(rg:Int)(t:T)(m:Mk)(h:Lb m):Lb (either (con sh d) rg t m):=by
 obtain⟨A,B,C,D,hA,hB,hC,hD,e⟩:=cm (con sh d) rg t m;rw[e];have gA:Lb A:=by rw[hA]; exact h.step rfl ((Ext.refl _).lay _)
 have gB:Lb B:=by rw[hB]; exact zfd sh d _ _ gA
 have gC:Lb C:=by rw[hC]; exact gB.step rfl ((((Ext.refl B).back A.known).lay (ix 20 0 0 0)).here _)
 have gD:Lb D:=by rw[hD]; exact zfd sh d _ _ gC
 exact gD.step rfl (((Ext.refl D).back C.known).here _)
theorem zbd {m:Mk}{j:Nat}{w:Wt}{f:Wt→Wt}(h:m.ws[j]? = some w):(m.setW j f).ws[j]? = some (f w):=by
 show(m.ws.modify j f)[j]? = _
 rw[List.getElem?_modify,h]; simp
theorem zly {m:Mk}{i j:Nat}{f:Wt→Wt}(h:i≠j):(m.setW j f).ws[i]? = m.ws[i]?:=by
 show(m.ws.modify j f)[i]? = _
 rw[List.getElem?_modify]; simp[Ne.symm h]
structure Wk (j:Nat)(m m':Mk):Prop where
 js:Js m m'
 fz:Fz m.ins.length m.ins m'
 le:m.ins.length≤m'.ins.length
 lb:(∀ x∈m.jobs,x.1≠j)→j<m.ws.length→Lb m→Lb m'
 ws:∀ i,i≠j→∀ w,m.ws[i]? = some w→m'.ws[i]? = some w
section
variable {j:Nat}{m m' m'':Mk}
theorem Wk.trans (h:Wk j m m')(k:Wk j m' m''):Wk j m m'':=by
 refine⟨h.js.trans k.js,fun p hp=>by rw[k.fz p (Nat.lt_of_lt_of_le hp h.le)]; exact h.fz p hp,Nat.le_trans h.le k.le,fun h1 h2 h3=>?_,fun i hi w hw=>k.ws i hi w (h.ws i hi w hw)⟩;obtain⟨N,e1,e2,e3⟩:=h.js;refine k.lb (fun x hx=>?_) (by omega) (h.lb h1 h2 h3);rw[e1] at hx;rcases List.mem_append.1 hx with h4|h4
 ·exact h1 x h4
 ·have:x.1∈N.map Prod.fst:=List.mem_map_of_mem h4;rw[e2,List.mem_range'_1] at this;omega
theorem Wk.of (h1:Js m m')(h2:Ext m m')(h3:Fz m.ins.length m.ins m')(h4:m.ins.length≤m'.ins.length)(h5:Lb m→Lb m'):Wk j m m':=⟨h1,h3,h4,fun _ _ h=>h5 h,fun i _ w hw=>ta h2 hw⟩
theorem Wk.con (sh:Bool)(d:Nat)(t:T)(m:Mk):Wk j m (Gf.con sh d t m):=Wk.of (ow ..) (fw ..) (iw sh d t m) (ku ..) (zfd sh d t m)
theorem Wk.either (sh:Bool)(d:Nat)(rg:Int)(t:T)(m:Mk):Wk j m (Gf.either (Gf.con sh d) rg t m):=by
 obtain⟨h1,h2⟩:=zhf sh d rg t m (n:=m.ins.length) (l:=m.ins) (fun p _=>rfl) (Nat.le_refl _);exact Wk.of (zrm ..) (zaj rg t m (fw sh d)) h1 (by omega) (zrl sh d rg t m)
theorem Wk.obs (sh:Bool)(d:Nat)(t:T)(m:Mk):Wk j m (Gf.obs sh d t m []).2.1:=Wk.of (Js.same (dr ..)) (jg ..) (zo sh d t m []) (bm ..) fun h=>h.step (dr ..) (jg ..)
theorem Wk.lay (m:Mk)(x:Ix):Wk j m (m.lay x):=Wk.of (Js.same rfl) ((Ext.refl m).lay x) (fun p hp=>dx m x hp) (by rw[ah]; omega) fun h=>h.step rfl ((Ext.refl m).lay x)
theorem Wk.here (h:Wk j m m'){q:Nat}(hq:m.ins.length≤q):Wk j m (m'.here q):=by
 refine⟨h.js.then rfl,h.fz.here hq,by rw[ak]; exact h.le,fun h1 h2 h3=>(h.lb h1 h2 h3).step rfl ((Ext.refl _).here q),h.ws⟩
theorem Wk.fresh (m:Mk):Wk j m m.fresh:=Wk.of (Js.same rfl) (Ext.refl m).fresh (fun p _=>rfl) (Nat.le_refl _) fun h=>h.step rfl (Ext.refl m).fresh
theorem Wk.setW (m:Mk)(f:Wt→Wt):Wk j m (m.setW j f):=by
 refine⟨Js.same (kj ..),fun p _=>rfl,Nat.le_refl _,fun h1 _ h x hx=>?_,fun i hi w hw=>?_⟩
 ·obtain⟨w,hw,hl⟩:=h x hx;exact⟨w,by rw[zly (h1 x hx)]; exact hw,hl⟩
 ·rw[zly hi]; exact hw
theorem Wk.hereAll:∀(l:List Nat) {m':Mk},Wk j m m'→(∀ p∈l,m.ins.length≤p)→Wk j m (hereAll m' l)
 | [],_,h,_=>h
 |p::l,m',h,hl=>Wk.hereAll l (h.here (hl p (List.mem_cons_self ..))) fun q hq=>hl q (List.mem_cons_of_mem _ hq)
theorem Wk.again (h:Wk j m m'){l:List Nat}(hl:∀ p∈l,m.ins.length≤p):Wk j m (again j m' l):=by
 unfold Gf.again;exact((Wk.hereAll l ((h.trans (Wk.setW m' _)).trans (Wk.lay _ _)) hl).trans (Wk.lay _ _)).trans (Wk.lay _ _)
theorem Wk.waitIn (m:Mk):Wk j m (waitIn j m):=(Wk.setW m _).trans (Wk.fresh _)
theorem zfm (sh:Bool)(j:Nat)(t:T)(m:Mk):Wk j m (wait sh j t m):=by
 have hw:=Wk.waitIn (j:=j) m;have l0:(Gf.waitIn j m).ins.length=m.ins.length:=rfl;by_cases A2:t.op=29
 ·rw[kg A2];refine Wk.again (((hw.trans (Wk.setW _ _)).trans (Wk.lay _ _)).trans (Wk.con ..)) fun p hp=>?_;rw[List.mem_singleton] at hp; omega
 by_cases A1:t.op=30
 ·rw[ii A1];have h1:=((hw.trans (Wk.setW _ fun w=>{ w with day:=t.n+1 })).trans (Wk.lay _ (ix 21 0 0 t.n)))
  have h2:=h1.trans (Wk.obs sh 200 (t.kid 0) _);have hu:=zcl sh 200 (t.kid 0) (((Gf.waitIn j m).setW j fun w=>{ w with day:=t.n+1 }).lay (ix 21 0 0 t.n)) [];have l1:=h1.le;have l2:=h2.le;refine Wk.again (Wk.here ((h2.trans (Wk.lay _ _)).trans (Wk.con ..)) (Nat.le_of_eq l0.symm)) fun p hp=>?_;rcases List.mem_append.1 hp with h|h
  ·rcases hu p h with h3|h3
   ·cases h3
   ·omega
  ·rw[List.mem_singleton] at h; omega
 by_cases A4:t.op=26
 ·rw[fx A4];refine Wk.again (((hw.trans (Wk.obs ..)).trans (Wk.lay _ _)).trans (Wk.con ..)) fun p hp=>?_;rcases zcl sh 200 (t.kid 0) (Gf.waitIn j m) [] p hp with h3|h3
  ·cases h3
  ·omega
 by_cases A3:t.op=28
 ·rw[kf A3];refine Wk.again ((hw.trans (Wk.obs ..)).trans (Wk.either ..)) fun p hp=>?_;rcases zcl sh 200 (t.kid 0) (Gf.waitIn j m) [] p hp with h3|h3
  ·cases h3
  ·omega
 by_cases A0:t.op=31
 ·rw[ij A0];obtain⟨A,C,B,D,hA,hC,hB,hD,e⟩:=ko sh j t (Gf.waitIn j m);rw[e];have wA:Wk j m A:=by rw[hA]; exact((hw.trans (Wk.lay _ _)).trans (Wk.lay _ _)).trans (Wk.lay _ _)
  have wC:Wk j m C:=by rw[hC]; exact(wA.trans (Wk.lay _ _)).trans (Wk.con ..)
  have wB:Wk j m B:=by rw[hB]; exact((wC.trans (Wk.lay _ _)).here (Nat.le_of_eq l0.symm)).here wA.le
  have wD:Wk j m D:=by rw[hD]; exact(wB.trans (Wk.fresh _)).trans (Wk.con ..)
  exact(wD.trans (Wk.lay _ _)).trans (Wk.setW _ _)
 ·rw[vx A2 A1 A4 A3 A0];exact hw.again fun p hp=>by cases hp
end
/-! A wait's entry. -/
def WAt (m:Mk)(j:Nat)(e:Int)(lb:ByteArray):Prop:=∃ w,m.ws[j]? = some w∧w.entry=e∧w.label=lb
theorem WAt.ext {m m':Mk}{j:Nat}{e:Int}{lb:ByteArray}(h:WAt m j e lb)(x:Ext m m'):WAt m' j e lb:=by
 obtain⟨w,h1,h2⟩:=h;exact⟨w,ta x h1,h2⟩
theorem WAt.day {m:Mk}{j:Nat}{e:Int}{lb:ByteArray}(h:WAt m j e lb)(g:Wt→Int):WAt (m.setW j fun w=>{ w with day:=g w }) j e lb:=by
 obtain⟨w,h1,h2,h3⟩:=h;exact⟨{ w with day:=g w },zbd h1,h2,h3⟩
theorem WAt.in' {m:Mk}{j:Nat}{w:Wt}(h:m.ws[j]? = some w)(hl:w.label=txt0):WAt (waitIn j m) j m.ins.length txt0:=
 ⟨{ w with entry:=m.ins.length },zbd h,rfl,hl⟩
theorem WAt.again {m:Mk}{j:Nat}{e:Int}{lb:ByteArray}{l:List Nat}(h:WAt m j e lb):WAt (again j m l) j e lb:=by
 obtain⟨w,h1,h2⟩:=h.day fun w=>cv w.day;refine⟨w,?_,h2⟩;unfold Gf.again;show(hereAll _ l).ws[j]? = _
 rw[(zae l _).1];exact h1
end Sm
end
section
open Go.RowKit
namespace Sm
open Co Gen Dn Gf
def zge (c:Cd)(E:Vm.Env)(J:Nat→T→Nat→Nat→Prop)(j:Nat)(t:T)(p1 p2:Nat):Prop:=
 ∃ w,c.waits[j]? = some w∧(t.op≠31→w.label=txt0)∧(t.op=31→w.label=t.s∧jf c E J w.first (fun f=>if t.n<E.day then den E (t.kid 1) f else den E (t.kid 0) f) p1 p2∧jf c E J w.second (den E (t.kid 1)) p1 p2)
section
variable {c:Cd}{E:Vm.Env}{J:Nat→T→Nat→Nat→Prop}{sh:Bool}{j:Nat}{N:List (Nat × T)}{q1 q2 p1 p2:Nat}
theorem zvh {W:Mk}{e:Int}{lb:ByteArray}(h:WAt W j e lb)(hc:c.waits[j]? = W.ws[j]?):dq c (j:Int)=e∧∃ w,c.waits[j]? = some w∧w.label=lb:=by
 obtain⟨w,h1,h2,h3⟩:=h;rw[h1] at hc;refine⟨?_,w,hc,h3⟩;unfold dq;rw[Int.toNat_natCast,hc];exact h2
theorem zsr (hR:Gen.right c=true)(he:EnvOk E){t:T}{m W:Mk}{w:Wt}(hW:wait sh j t m=W)(hx:t.letter=99)(hw:bp t=true)(hd:t.depth≤200)(A8:m.ws[j]? = some w)(A7:w.label=txt0)(hc:kw c W)(A4:c.waits[j]? = W.ws[j]?)
  (hN:W.jobs=m.jobs++N) (hq:Cost (vp c E J) N q1 q2) (hJ:J j t p1 p2) (h1:W.ins.length+q1≤p1+m.ins.length) (h2:q2≤p2):jf c E J (dq c (j:Int)) (den E t) p1 p2∧zge c E J j t p1 p2:=by
 have A1:=WAt.in' A8 A7;obtain⟨op,n,s,ks⟩:=t;have A0:∀ k∈ks,k.depth≤200:=fun k hk=>by
  have h1:=em hk;rw[T.depth] at hd;omega
 have fin:∀ {e:Int},WAt W j m.ins.length txt0→jf c E J m.ins.length (den E (.mk op n s ks)) p1 p2→(T.mk op n s ks).op≠31→jf c E J (dq c (j:Int)) (den E (.mk op n s ks)) p1 p2∧zge c E J j (.mk op n s ks) p1 p2:=fun h3 h4 h5=>by
  obtain⟨e1,w',e2,e3⟩:=zvh h3 A4;rw[e1];exact⟨h4,w',e2,fun _=>e3,fun h=>absurd h h5⟩
 rcases bz hx with(⟨rfl,rfl⟩|⟨rfl,rfl⟩)|⟨A3,a,rfl,ha⟩|⟨rfl,o,a,rfl,ho,ha⟩|⟨A3,a,b,rfl,ha,hb⟩|⟨rfl,o,a,b,rfl,ho,ha,hb⟩|⟨rfl,o,a,rfl,ho,ha⟩
 ·rw[bv (.inl rfl)] at hw; cases hw
 ·rw[bv (.inr (.inl rfl))] at hw; cases hw
 ·rcases A3 with rfl|rfl
  ·rw[bv (.inr (.inr (.inl rfl)))] at hw; cases hw
  ·rw[kg rfl,ay] at hW;obtain⟨X,hX⟩:∃ X,con sh 200 a (((waitIn j m).setW j fun w=>{ w with day:=(T.mk 29 n s [a]).n }).lay (ix 22 0 0 (T.mk 29 n s [a]).n))=X:=⟨_,rfl⟩
   rw[hX] at hW;subst hW;refine fin (e:=0) ?_ ?_ (show(29:Int)≠31 by decide)
   ·refine WAt.again ?_;rw[←hX];exact((A1.day _).ext ((Ext.refl _).lay _)).ext (fw ..)
   ·have hl:=lq j X [(waitIn j m).ins.length];exact zyy (m:=(waitIn j m).setW j fun w=>{ w with day:=(T.mk 29 n s [a]).n }) hR he ha (A0 a (by simp)) rfl rfl hX hc (by rw[←mn (fm j [(waitIn j m).ins.length] X),hN]; rfl) hq hJ (by show _≤p1+m.ins.length; omega) h2
 ·rw[fx rfl,ay,bx] at hW;obtain⟨O,hO⟩:∃ O,obs sh 200 o (waitIn j m) []=O:=⟨_,rfl⟩
  rw[hO] at hW;obtain⟨X,hX⟩:∃ X,con sh 200 a (O.2.1.lay (ix 23 0 O.1 0))=X:=⟨_,rfl⟩
  rw[hX] at hW;subst hW;refine fin (e:=0) ?_ ?_ (show(26:Int)≠31 by decide)
  ·refine WAt.again ?_;rw[←hX,←hO];exact((A1.ext (jg sh 200 o _ _)).ext ((Ext.refl _).lay _)).ext (fw ..)
  ·have hl:=lq j X O.2.2;exact zpe (m:=waitIn j m) hR he ho (A0 o (by simp)) ha (A0 a (by simp)) rfl rfl hO hX hc (by rw[←mn (fm j O.2.2 X),hN]; rfl) hq hJ (by show _≤p1+m.ins.length; omega) h2
 ·rcases A3 with rfl|rfl
  ·rw[bv (.inr (.inr (.inr rfl)))] at hw; cases hw
  ·rw[ij rfl] at hW;obtain⟨A,C,B,D,hA,hC,hB,hD,e⟩:=ko sh j (.mk 31 n s [a,b]) (waitIn j m);rw[e] at hW;rw[ay] at hC;rw[bx] at hD;have xA:Ext (waitIn j m) A:=by rw[hA]; exact(((Ext.refl _).lay _).lay _).fin
   have xC:Ext A C:=by rw[hC]; exact((Ext.refl _).lay _).trans (fw ..)
   have xB:Ext C B:=by rw[hB]; exact((Ext.refl _).fin.here _).here _
   have xD:Ext B D:=by rw[hD]; exact(Ext.refl _).fresh.trans (fw ..)
   obtain⟨w',A6, -, -⟩:=((((A1.ext xA).ext xC).ext xB).ext xD)
   have B0:W.ws[j]? = some ⟨(waitIn j m).ins.length,cv (n+1),s,A.ins.length,B.ins.length⟩:=by
    rw[←hW];exact zbd (m:=D.fin) A6
   have A5:=A4.trans B0;have A9:W.jobs=D.jobs:=by rw[←hW]; rfl
   have:=ztz (d:=200) (J:=J) (sh:=sh) (m:=waitIn j m) hR he ha (A0 a (by simp)) hb (A0 b (by simp)) rfl rfl hA hC hB hD (by rw[←hW]; rfl) hc (by rw[←A9,hN]; rfl) hq hJ (by show _≤p1+m.ins.length; omega) h2;obtain⟨g1,g2,g3⟩:=this;refine⟨?_,_,A5,fun h=>absurd rfl h,fun _=>⟨rfl,g2,g3⟩⟩;unfold dq;rw[Int.toNat_natCast,A5];exact g1
 ·rw[kf rfl,ay] at hW;obtain⟨O,hO⟩:∃ O,obs sh 200 o (waitIn j m) []=O:=⟨_,rfl⟩
  rw[hO] at hW;obtain⟨X,hX⟩:∃ X,either (con sh 200) O.1 (.mk 28 n s [o,a,b]) O.2.1=X:=⟨_,rfl⟩
  rw[hX] at hW;subst hW;refine fin (e:=0) ?_ ?_ (show(28:Int)≠31 by decide)
  ·refine WAt.again ?_;rw[←hX,←hO];exact(A1.ext (jg sh 200 o _ _)).ext (zaj _ _ _ (fw sh 200))
  ·have hl:=lq j X O.2.2;exact zxq (m:=waitIn j m) hR he ho (A0 o (by simp)) ha (A0 a (by simp)) hb (A0 b (by simp)) rfl rfl hO hX hc (by rw[←mn (fm j O.2.2 X),hN]; rfl) hq hJ (by show _≤p1+m.ins.length; omega) h2
 ·rw[ii rfl,ay,bx] at hW;obtain⟨O,hO⟩:∃ O,obs sh 200 o (((waitIn j m).setW j fun w=>{ w with day:=(T.mk 30 n s [o,a]).n+1 }).lay (ix 21 0 0 (T.mk 30 n s [o,a]).n)) []=O:=⟨_,rfl⟩
  rw[hO] at hW;obtain⟨X,hX⟩:∃ X,con sh 200 a (O.2.1.lay (ix 19 0 O.1 0))=X:=⟨_,rfl⟩
  rw[hX] at hW;obtain⟨X',A2⟩:∃ X',X.here (waitIn j m).ins.length=X':=⟨_,rfl⟩
  rw[A2] at hW;subst hW;have lX:X'.ins.length=X.ins.length:=by rw[←A2,ak]
  refine fin (e:=0) ?_ ?_ (show(30:Int)≠31 by decide)
  ·refine WAt.again ?_;rw[←A2,←hX,←hO];exact(((((A1.day _).ext ((Ext.refl _).lay _)).ext (jg sh 200 o _ _)).ext ((Ext.refl _).lay _)).ext (fw ..)).ext ((Ext.refl _).here _)
  ·have hl:=lq j X' (O.2.2++[O.2.1.ins.length]);exact zsm (m:=(waitIn j m).setW j fun w=>{ w with day:=(T.mk 30 n s [o,a]).n+1 }) hR he ho (A0 o (by simp)) ha (A0 a (by simp)) rfl rfl hO hX A2 hc (by
    have e1:X'.jobs=X.jobs:=by rw[←A2]; rfl
    rw[←e1,←mn (fm j (O.2.2++[O.2.1.ins.length]) X'),hN]; rfl) hq hJ (by show _≤p1+m.ins.length; omega) h2
end
end Sm
end
section
open Go.RowKit
namespace Sm
open Co Gen Dn Gf
inductive Jb (sh:Bool)(M:Mk):Nat→T→Nat→Nat→Prop
 |mk {m:Mk} {j:Nat} {t:T} {r N:List (Nat × T)} {q1 q2:Nat} (k:Nat):Gf.St k m→m.jobs=(j,t)::r→Lb m→kw M.code (wait sh j t (aw m r))→M.ws[j]? = (wait sh j t (aw m r)).ws[j]? → (wait sh j t (aw m r)).jobs=r++N →
   Cost (Jb sh M) N q1 q2→Jb sh M j t ((wait sh j t (aw m r)).ins.length - m.ins.length+q1) (1+q2)
theorem Jb.one {sh:Bool}{M:Mk}{j:Nat}{t:T}{p1 p2:Nat}(h:Jb sh M j t p1 p2):1≤p2:=by
 cases h;omega
theorem Jb.fact {sh:Bool}{M:Mk}{j:Nat}{t:T}{p1 p2:Nat}(h:Jb sh M j t p1 p2):t.letter=99∧bp t=true∧j<M.ws.length:=by
 cases h with
 | @mk m _ _ r N q1 q2 k hs hj hl hb hw hN hc=>
  obtain⟨h1,h2,h3,h4⟩:=hs.job hj;refine⟨h2,h3,?_⟩;obtain⟨w,A0, -⟩:=hl (j,t) (by rw[hj]; exact List.mem_cons_self ..);obtain⟨N',e1,e2,e3⟩:=(zfm sh j t (aw m r)).js;have hl:=(List.getElem?_eq_some_iff.1 A0).1;have A1:j<(wait sh j t (aw m r)).ws.length:=by rw[e3]; exact Nat.lt_of_lt_of_le hl (Nat.le_add_right _ _)
  rw[List.getElem?_eq_getElem A1] at hw;exact(List.getElem?_eq_some_iff.1 hw).1
theorem zxi {N:List (Nat × T)}{x:Nat × T}(h:x∈N):x.2.size≤tot N:=by
 induction N with
 |nil=>cases h
 |cons y r ih=>
  rw[tot];rcases List.mem_cons.1 h with h1|h1
  ·subst h1; omega
  ·have:=ih h1; omega
theorem zml {sh:Bool}{M:Mk}{E:Vm.Env}(hR:Gen.right M.code=true)(he:EnvOk E):∀ n j t p1 p2,t.size≤n→Jb sh M j t p1 p2→vp M.code E (Jb sh M) j t p1 p2∧zge M.code E (Jb sh M) j t p1 p2:=by
 intro n;induction n with
 |zero=>intro j t p1 p2 h; have:=size_pos t; omega
 |succ n ih=>
  intro j t p1 p2 hn h;have hJ:=h;cases h with
  | @mk m _ _ r N q1 q2 k hs hj hl hb hw hN hc=>
   obtain⟨h1,h2,h3,h4⟩:=hs.job hj;obtain⟨w,A1,A0⟩:=hl (j,t) (by rw[hj]; exact List.mem_cons_self ..);have ht:=zig sh j t (aw m r) h2 h3;have e1:(jw (aw m r)).1=r:=rfl;have e2:(jw (wait sh j t (aw m r))).1=r++N:=hN;rw[e1,e2,zeh] at ht;have A2:Cost (vp M.code E (Jb sh M)) N q1 q2:=hc.mono fun x hx p1 p2 hQ=>(ih x.1 x.2 p1 p2 (by have:=zxi hx; omega) hQ).1;have wk:=(zfm sh j t (aw m r)).le;have lm:(aw m r).ins.length=m.ins.length:=rfl
   have:=zsr (sh:=sh) (j:=j) (t:=t) (W:=wait sh j t (aw m r)) hR he (m:=aw m r) (w:=w) (c:=M.code) rfl h2 h3 h4 A1 A0 hb hw hN A2 hJ (by omega) (by omega);exact⟨⟨hJ,this.1⟩,this.2⟩
theorem Cost.join {Q:Nat→T→Nat→Nat→Prop}{N:List (Nat × T)}{j:Nat}{t:T}{p1 p2 q1 q2:Nat}(h:Q j t p1 p2)(k:Cost Q N q1 q2):Cost Q ((j,t)::N) (p1+q1) (p2+q2):=.cons h k
theorem ztn (sh:Bool):∀ n m k,Gf.St k m→tot m.jobs≤n→Lb m→(m.jobs.map Prod.fst).Nodup→∃ q1 q2,Cost (Jb sh (run sh n m)) m.jobs q1 q2∧m.ins.length+q1=(run sh n m).ins.length∧q2+m.ws.length=(run sh n m).ws.length+m.jobs.length ∧
  kw (run sh n m).code m∧(∀ i,(∀ x∈m.jobs,x.1≠i)→∀ w,m.ws[i]? = some w→(run sh n m).ws[i]? = some w):=by
 intro n;induction n with
 |zero=>
  intro m k hs hn hl hd;have e:m.jobs=[]:=by
   cases hj:m.jobs with
   |nil=>rfl
   |cons x r=>rw[hj,tot] at hn; have:=size_pos x.2; omega
  rw[xx e,e];exact⟨0,0,.nil,rfl,by simp,fun p _=>rfl,fun i _ w h=>h⟩
 |succ n ih=>
  intro m k hs hn hl hd;cases hj:m.jobs with
  |nil=>
   rw[xx hj];exact⟨0,0,.nil,rfl,by simp,fun p _=>rfl,fun i _ w h=>h⟩
  |cons x r=>
   obtain⟨j,t⟩:=x;rw[zdl hj];have ht:=hs.tot hj sh;obtain⟨h1,h2,h3,h4⟩:=hs.job hj;have wk:=zfm sh j t (aw m r);obtain⟨N,e1,e2,e3⟩:=wk.js;have e1:(wait sh j t (aw m r)).jobs=r++N:=e1;have lm:(aw m r).ins.length=m.ins.length:=rfl;have lw:(aw m r).ws.length=m.ws.length:=rfl;rw[lw] at e2 e3;rw[hj,List.map_cons,List.nodup_cons] at hd;have hr:∀ x∈r,x.1≠j:=fun x hx e=>hd.1 (by have:=List.mem_map_of_mem (f:=Prod.fst) hx; rw[e] at this; exact this);have A3:∀ x∈r,x.1<m.ws.length:=fun x hx=>(hs.jobs x (by show x∈m.jobs; rw[hj]; exact List.mem_cons_of_mem _ hx)).1;have A0:∀ x∈N,m.ws.length≤x.1:=fun x hx=>by
    have:x.1∈N.map Prod.fst:=List.mem_map_of_mem hx;rw[e2,List.mem_range'_1] at this;omega
   have A4:Lb (wait sh j t (aw m r)):=wk.lb hr (by rw[lw]; exact h1) fun x hx=>hl x (by rw[hj]; exact List.mem_cons_of_mem _ hx);have A2:((wait sh j t (aw m r)).jobs.map Prod.fst).Nodup:=by
    rw[e1,List.map_append,List.nodup_append];refine⟨hd.2,by rw[e2]; exact List.nodup_range',fun a ha b hb A8=>?_⟩;obtain⟨x,hx,rfl⟩:=List.mem_map.1 ha;obtain⟨y,hy,rfl⟩:=List.mem_map.1 hb
    have:=A3 x hx
    have:=A0 y hy;omega
   obtain⟨a1,a2,g1,g2,g3,g4,g5⟩:=ih _ k (hs.next hj sh) (by omega) A4 A2;generalize hM:run sh n (wait sh j t (aw m r))=M at *;rw[e1] at g1 g3;obtain⟨x1,x2,y1,y2,c1,c2,rfl,rfl⟩:=g1.split;have A7:=wk.le;have A5:∀ x∈(wait sh j t (aw m r)).jobs,x.1≠j:=fun x hx=>by
    rw[e1] at hx;rcases List.mem_append.1 hx with h|h
    ·exact hr x h
    ·have:=A0 x h; omega
   have A1:M.ws[j]? = (wait sh j t (aw m r)).ws[j]?:=by
    have hl:j<(wait sh j t (aw m r)).ws.length:=by omega
    rw[List.getElem?_eq_getElem hl];exact g5 j A5 _ (List.getElem?_eq_getElem hl)
   refine⟨_,_,Cost.join (Jb.mk k hs hj hl g4 A1 e1 c2) c1,by omega,?_,fun p hp=>?_,fun i hi w hw=>?_⟩
   ·rw[List.length_append] at g3;rw[List.length_cons];omega
   ·rw[g4 p (by omega)]; exact wk.fz p hp
   ·have A6:i≠j:=Ne.symm (hi (j,t) (List.mem_cons_self ..));refine g5 i (fun x hx=>?_) w (wk.ws i A6 w hw);rw[e1] at hx;rcases List.mem_append.1 hx with h|h
    ·exact hi x (List.mem_cons_of_mem _ h)
    ·have:=A0 x h
     have:=(List.getElem?_eq_some_iff.1 hw).1;omega
theorem zry {sh:Bool}{t:T}{E:Vm.Env}(hR:Gen.right (eu sh t).code=true)(he:EnvOk E)(hx:t.letter=99)(hd:t.depth≤200):jf (eu sh t).code E (Jb sh (eu sh t)) 0 (den E t) (eu sh t).ins.length (eu sh t).ws.length:=by
 obtain⟨hs,ht⟩:=zg sh t hx hd;obtain⟨N,e1,e2,e3⟩:=ow sh 200 t mk0;have e1:(con sh 200 t mk0).fin.jobs=N:=e1;have A1:Lb (con sh 200 t mk0).fin:=(zfd sh 200 t mk0 fun x hx=>by cases hx).step rfl (Ext.refl _).fin;obtain⟨q1,q2,g1,g2,g3,g4, -⟩:=ztn sh t.size _ _ hs ht A1 (by rw[e1,e2]; exact List.nodup_range');have hM:run sh t.size (con sh 200 t mk0).fin=eu sh t:=rfl;rw[hM] at g1 g2 g3 g4;generalize eu sh t=M at *;have hc:Cost (vp M.code E (Jb sh M)) N q1 q2:=by
  rw[e1] at g1;exact g1.mono fun x _ p1 p2 hQ=>(zml hR he x.2.size x.1 x.2 p1 p2 (Nat.le_refl _) hQ).1
 have lf:(con sh 200 t mk0).fin.ins.length=(con sh 200 t mk0).ins.length+1:=ah _ _;have A2:Ag M.code mk0.ins.length (con sh 200 t mk0):=fun p x _ hx=>by
  have:=(List.getElem?_eq_some_iff.1 hx).1;exact⟨x.to,by rw[g4 p (by omega)]; show((con sh 200 t mk0).lay _).ins[p]? = _; rw[dx _ _ this,hx]; rfl,fun _=>rfl⟩
 have A0:M.code.ins[(con sh 200 t mk0).ins.length]? = some (ix 30 0 0 0):=by rw[g4 _ (by omega)]; exact dy _ _
 intro f;obtain⟨k,hs',f',r',a1,a2,u1,u2,u3,u4,u5, -, -, -⟩:=rl (J:=Jb sh M) hR he 200 t mk0 N q1 q2 No Vm.zeros f hx hd (zah rfl rfl) A2 e1 hc;have g:=u1.ends (Ends.stop (E:=E) (f:=f') (r:=r') A0 (show(30:Int)=30 from rfl));rw[List.append_nil,List.append_nil] at g;have l0:mk0.ins.length=0:=rfl;have w0:mk0.ws.length=0:=rfl;have w1:(con sh 200 t mk0).fin.ws.length=N.length:=by rw[show(con sh 200 t mk0).fin.ws.length=(con sh 200 t mk0).ws.length from rfl,e3,w0,Nat.zero_add]
 rw[e1] at g3;exact⟨_,hs',a1,a2,g,u2,by omega,by omega,by omega⟩
theorem Match.length {J:Nat→T→Nat→Nat→Prop}{hs:List (Int × Int)}{ls:List (T × Int)}{p1 p2:Nat}(hJ:∀ j t p1 p2,J j t p1 p2→1≤p2)(h:Match J hs ls p1 p2):hs.length≤p2:=by
 induction h with
 |nil=>exact Nat.le_refl _
 |cons h1 h2 ih=>have:=hJ _ _ _ _ h1; rw[List.length_cons]; omega
theorem zxz {c:Cd}{E:Vm.Env}{J:Nat→T→Nat→Nat→Prop}{entry:Int→Int}{res:T→Int→R}(hJ:∀ j t p1 p2,J j t p1 p2→1≤p2∧jf c E J (entry j) (res t) p1 p2){l:List (Int × Int)}{ls:List (T × Int)}{p1 p2:Nat}(h:Match J l ls p1 p2):
  ∃ k hs a1 a2,(∀ H O s,s+p1≤65536→H.length+p2≤250→Vm.all c E entry l ⟨H,O,s,false⟩=⟨H++hs,O++ls.flatMap (fun x=>(res x.1 x.2).2),s+k,false⟩)∧Match J hs (ls.flatMap fun x=>(res x.1 x.2).1) a1 a2∧k≤p1∧a1≤p1∧a2≤p2:=by
 induction h with
 |nil=>exact⟨0,[],0,0,fun H O s _ _=>by simp[Vm.all],.nil,Nat.le_refl _,Nat.le_refl _,Nat.le_refl _⟩
 | @cons j t f p1 p2 q1 q2 hs ls h1 h2 ih=>
  obtain⟨k,hs',a1,a2,g1,g2,g3,g4,g5⟩:=ih;obtain⟨k',A0,b1,b2,u1,u2,u3,u4,u5⟩:=(hJ _ _ _ _ h1).2 f;have hl:=u2.length fun j t p1 p2 h=>(hJ j t p1 p2 h).1;refine⟨k'+k,A0++hs',_,_,fun H O s A2 A1=>?_,u2.app g2,by omega,by omega,by omega⟩;show Vm.all c E entry hs (Vm.run c E (entry j) f Vm.zeros ⟨H,O,s,false⟩)=_
  rw[u1 H O s (by omega) (by omega),g1 _ _ _ (by omega) (by rw[List.length_append]; omega)];simp[Nat.add_assoc]
end Sm
end
end Go.Proofs.YtanlmbbalamgkaaGreatDoor
