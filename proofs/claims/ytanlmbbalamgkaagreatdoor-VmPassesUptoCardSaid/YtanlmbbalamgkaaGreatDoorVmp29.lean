/- Proved: lemmas and contracts of the functions that the law reaches, part 29 of 35: GfFf. Conditions: as each states. -/
import Derived.Test.YtanlmbbalamgkaaGreatDoorVmp25
namespace Go.Proofs.YtanlmbbalamgkaaGreatDoor
set_option linter.unusedVariables false
set_option linter.unusedSimpArgs false
section
open Go.RowKit
namespace Gf
open Co Gen Dn
structure Ff (m:Mk):Prop where
 ins:∀(p:Nat) x,m.ins[p]? = some x→IxFits x
 ws:∀(p:Nat) w,m.ws[p]? = some w→WtFits w
theorem dj {n:Int}(h : -1000000000000000≤n∧n≤1000000000000000):I64 n:=by unfold I64; omega
theorem ea {op a b n:Int}(ho:0≤op∧op≤30)(ha:0≤a∧a≤1000000)(hb:0≤b∧b≤1000000)(hn : -1000000000000000≤n∧n≤1000000000000000):IxFits (ix op a b n):=
 ⟨dj (by show _≤op∧op≤_; omega),dj (by show _≤a∧a≤_; omega),dj (by show _≤b∧b≤_; omega),dj (by show _≤(0:Int)∧(0:Int)≤_; omega),dj hn,by show txt0.size≤_; decide,dj (by show _≤(0:Int)∧(0:Int)≤_; omega)⟩
theorem zuu {op a b c n:Int}{s:ByteArray}(ho:0≤op∧op≤30)(ha:0≤a∧a≤1000000)(hb:0≤b∧b≤1000000)(hc:0≤c∧c≤1000000)(hn : -1000000000000000≤n∧n≤1000000000000000)(hs:s.size≤2000000):IxFits ⟨op,a,b,c,n,s,0⟩:=
 ⟨dj (by show _≤op∧op≤_; omega),dj (by show _≤a∧a≤_; omega),dj (by show _≤b∧b≤_; omega),dj (by show _≤c∧c≤_; omega),dj hn,hs,dj (by show _≤(0:Int)∧(0:Int)≤_; omega)⟩
section
variable {m m':Mk}
theorem Ff.lay (h:Ff m){x:Ix}(hx:IxFits x):Ff (m.lay x):=⟨fun p y hy=>by
 have A0:(m.ins++[x])[p]? = some y:=hy;rcases List.mem_append.1 (List.mem_of_getElem? A0) with h1|h1
 ·obtain⟨i,hi⟩:=List.getElem?_of_mem h1;exact h.ins i y hi
 ·rw[List.mem_singleton] at h1; subst h1; exact hx,h.ws⟩
theorem Ff.here (h:Ff m)(hl:m.ins.length≤1000000)(p:Nat):Ff (m.here p):=⟨fun q y hy=>by
 rw[qb] at hy;split at hy
 ·obtain⟨x,hx,rfl⟩:=Option.map_eq_some_iff.1 hy;have h1:=h.ins q x hx;exact⟨h1.op,h1.a,h1.b,h1.c,h1.n,h1.s,dj (by show _≤(m.ins.length:Int)∧(m.ins.length:Int)≤_; omega)⟩
 ·exact h.ins q y hy,h.ws⟩
theorem Ff.same (h:Ff m)(h1:m'.ins=m.ins)(h2:m'.ws=m.ws):Ff m':=⟨by rw[h1]; exact h.ins,by rw[h2]; exact h.ws⟩
theorem Ff.free (h:Ff m)(sh:Bool)(r:Int):Ff (m.free sh r):=h.same (by unfold Mk.free; cases sh<;>rfl) (by unfold Mk.free; cases sh<;>rfl)
theorem zsl:WtFits wt0:=⟨dj (by decide),dj (by decide),by decide,dj (by decide),dj (by decide)⟩
theorem Ff.call (h:Ff m)(hw:m.ws.length≤1000000)(t:T):Ff (m.call t):=⟨(h.lay (ea (op:=29) (a:=0) (b:=0) (n:=m.ws.length) (by decide) (by decide) (by decide) (by omega))).ins,fun p w hp=>by
 have A0:(m.ws++[wt0])[p]? = some w:=hp;rcases List.mem_append.1 (List.mem_of_getElem? A0) with h1|h1
 ·obtain⟨i,hi⟩:=List.getElem?_of_mem h1;exact h.ws i w hi
 ·rw[List.mem_singleton] at h1; subst h1; exact zsl⟩
theorem Ff.setW (h:Ff m)(j:Nat)(f:Wt→Wt)(hf:∀ w,WtFits w→WtFits (f w)):Ff (m.setW j f):=⟨h.ins,fun p w hp=>by
 have A0:(m.ws.modify j f)[p]? = some w:=hp;rw[List.getElem?_modify] at A0;obtain⟨x,hx,e⟩:=Option.map_eq_some_iff.1 A0;have h1:=h.ws p x hx;split at e
 ·subst e; exact hf x h1
 ·have:x=w:=e;subst this;exact h1⟩
theorem si {k:Nat}(sh:Bool)(v:Val)(u:List Nat)(h:Ff m)(hf:Fit k m)(hk:k≤900000)(hv:∀ r,0≤r∧r≤1000000→IxFits (v.ix r)):Ff (au sh v m u).2.1:=by
 unfold au;split
 ·exact h
 ·have hn:=hf.nx;exact((h.same (m':=m.reg) rfl rfl).lay (hv m.next (by omega))).same rfl rfl
theorem tz {k u:Nat}{o:Ob}(sh:Bool)(out:Int)(h:Ff o.2.1)(hf:FitO k u o)(hk:k≤900000)(ho:0≤out∧out≤1000000):Ff (aj sh out o).1:=by
 have hr:=hf.r;exact(h.lay (ea (op:=18) (n:=0) (by decide) ho (by omega) (by decide))).free sh _
end
theorem uh {op n a b r:Int}{s:ByteArray}(ho:0≤op∧op≤30)(hn : -1000000000000000≤n∧n≤1000000000000000)(hs:s.size≤2000000)(ha:0≤a∧a≤1000000)(hb:0≤b∧b≤1000000)(hr:0≤r∧r≤1000000):IxFits ((⟨op,n,s,a,b⟩:Val).ix r):=
 ⟨dj (by show _≤op∧op≤_; omega),dj (by show _≤r∧r≤_; omega),dj (by show _≤a∧a≤_; omega),dj (by show _≤b∧b≤_; omega),dj hn,hs,dj (by show _≤(0:Int)∧(0:Int)≤_; omega)⟩
theorem zdc {op:Int}(h:6≤op∧op≤21):0≤ai op∧ai op≤30:=by unfold ai; split<;>omega
theorem zbj (sh:Bool)(d:Nat):∀(t:T) (m:Mk) (u:List Nat) (k:Nat),Obs t→Fit k m→k+8 * t.size≤900000→Ff m→Ff (obs sh d t m u).2.1:=by
 induction d with
 |zero=>intro t m u k _ _ _ h; exact h
 |succ d ih=>
  intro t m u k ht h hk hF;obtain⟨op,n,s,ks⟩:=t;have hz:(T.mk op n s ks).size=1+sizes ks:=by rw[T.size]
  have hn:=h.nx;have hl:=h.len;rcases cy ht with h1|⟨rfl,h2⟩|⟨rfl,h2⟩|⟨h1,a,rfl,ha, -⟩|⟨h1,a,b,rfl,ha,hb⟩|⟨rfl,a,b,c,rfl,ha,hb,hc⟩|⟨h1,a,b,rfl,ha,hb⟩
  ·rw[px (t:=.mk op n s ks) h1];exact si sh _ u hF h (by omega) fun r hr=>uh (by decide) (fields_range (oh ht (by omega))) (by decide) (by decide) (by decide) hr
  ·rw[qx rfl];have hs:=Led.name_len (zhd (oh ht (by decide))).1;exact si sh _ u hF h (by omega) fun r hr=>uh (by decide) (fields_range (oh ht (by decide))) (by show s.size≤_; omega) (by decide) (by decide) hr
  ·rw[tu rfl];exact si sh _ u hF h (by omega) fun r hr=>uh (by decide) (fields_range (oh ht (by decide))) (by decide) (by decide) (by decide) hr
  ·have hs:(T.mk op n s [a]).size=1+a.size:=by rw[hz]; simp[sizes]
   rw[mj (by show 6≤op∧op≤21∧op≠15∧op≠16; omega),iz (a:=a) (by simp[T.ks]) ay rfl];have fa:=co sh d a m u k ha h;have ga:=ih a m u k ha h (by omega) hF;have hr:=fa.r;have hp:=zdc (op:=op) (by omega);split
   ·exact si sh _ _ ga fa.m (by omega) fun r A0=>uh hp (by decide) (by decide) (by omega) (by decide) A0
   ·exact(ga.lay (zuu (c:=0) (n:=0) (s:=txt0) hp (by omega) (by omega) (by decide) (by decide) (by decide))).free sh _
  ·have hs:(T.mk op n s [a,b]).size=1+(a.size+b.size):=by rw[hz]; simp[sizes]
   have oa:=co sh d a m.reg u (k+1) (cf ha) h.reg;have fa:=ey sh oa (out:=m.next) (by omega);have ga:=tz sh m.next (ih a m.reg u (k+1) (cf ha) h.reg (by omega) (hF.same rfl rfl)) oa (by omega) (by omega);rcases h1 with rfl|rfl
   ·rw[tv rfl];unfold chosen iq;simp only[ay,bx];generalize aj sh m.next (obs sh d a m.reg u)=A at *;have f1:=fa.1.lay (ix 19 0 m.next 0);have g1:=ga.lay (ea (op:=19) (a:=0) (b:=m.next) (n:=0) (by decide) (by decide) (by omega) (by decide));have ob:=co sh d b _ A.2 _ hb f1;have fb:=ey sh ob (out:=m.next) (by omega);have gb:=tz sh m.next (ih b _ A.2 _ hb f1 (by omega) g1) ob (by omega) (by omega);generalize aj sh m.next (obs sh d b (A.1.lay (ix 19 0 m.next 0)) A.2)=C at *;have fl:=fb.1.len;exact((gb.same (m':=C.1.back (A.1.lay (ix 19 0 m.next 0)).known) rfl rfl).here (by rw[ao]; omega) _).free sh _
   ·rw[yd rfl];unfold chosen jy;simp only[ay,bx];generalize aj sh m.next (obs sh d a m.reg u)=A at *;have f1:=((fa.1.lay (ix 19 0 m.next 0)).lay (ix 20 0 0 0)).here A.1.ins.length;have A2:=f1.len;rw[ak] at A2;have g1:=((ga.lay (ea (op:=19) (a:=0) (b:=m.next) (n:=0) (by decide) (by decide) (by omega) (by decide))).lay (ea (op:=20) (a:=0) (b:=0) (n:=0) (by decide) (by decide) (by decide) (by decide))).here (by omega) A.1.ins.length;have ob:=co sh d b _ A.2 _ hb f1;have fb:=ey sh ob (out:=m.next) (by omega);have gb:=tz sh m.next (ih b _ A.2 _ hb f1 (by omega) g1) ob (by omega) (by omega);generalize aj sh m.next (obs sh d b (((A.1.lay (ix 19 0 m.next 0)).lay (ix 20 0 0 0)).here A.1.ins.length) A.2)=C at *;have fl:=fb.1.len;exact((gb.same (m':=C.1.back (((A.1.lay (ix 19 0 m.next 0)).lay (ix 20 0 0 0)).here A.1.ins.length).known) rfl rfl).here (by rw[ao]; omega) _).free sh _
  ·have hs:(T.mk 22 n s [a,b,c]).size=1+(a.size+(b.size+c.size)):=by rw[hz]; simp[sizes]
   have oa:=co sh d a m.reg u (k+1) (cf ha) h.reg;have fa:=ey sh oa (out:=m.next) (by omega);have ga:=tz sh m.next (ih a m.reg u (k+1) (cf ha) h.reg (by omega) (hF.same rfl rfl)) oa (by omega) (by omega);rw[yf rfl];unfold chosen jz;simp only[ay,bx,ng];generalize aj sh m.next (obs sh d a m.reg u)=A at *;have f1:=fa.1.lay (ix 19 0 m.next 0);have g1:=ga.lay (ea (op:=19) (a:=0) (b:=m.next) (n:=0) (by decide) (by decide) (by omega) (by decide));have ob:=co sh d b _ A.2 _ hb f1;have fb:=ey sh ob (out:=m.next) (by omega);have gb:=tz sh m.next (ih b _ A.2 _ hb f1 (by omega) g1) ob (by omega) (by omega);generalize aj sh m.next (obs sh d b (A.1.lay (ix 19 0 m.next 0)) A.2)=C at *;have f2:=((fb.1.back f1 (by omega)).lay (ix 20 0 0 0)).here A.1.ins.length;have A1:=f2.len;rw[ak] at A1;have g2:=((gb.same (m':=C.1.back (A.1.lay (ix 19 0 m.next 0)).known) rfl rfl).lay (ea (op:=20) (a:=0) (b:=0) (n:=0) (by decide) (by decide) (by decide) (by decide))).here (by omega) A.1.ins.length;have oc:=co sh d c _ C.2 _ hc f2;have fc:=ey sh oc (out:=m.next) (by omega);have gc:=tz sh m.next (ih c _ C.2 _ hc f2 (by omega) g2) oc (by omega) (by omega);generalize aj sh m.next (obs sh d c (((C.1.back (A.1.lay (ix 19 0 m.next 0)).known).lay (ix 20 0 0 0)).here A.1.ins.length) C.2)=F at *;have fl:=fc.1.len;exact((gc.same (m':=F.1.back (((C.1.back (A.1.lay (ix 19 0 m.next 0)).known).lay (ix 20 0 0 0)).here A.1.ins.length).known) rfl rfl).here (by rw[ao]; omega) _).free sh _
  ·have hs:(T.mk op n s [a,b]).size=1+(a.size+b.size):=by rw[hz]; simp[sizes]
   unfold ct at h1;rw[mj (by show 6≤op∧op≤21∧op≠15∧op≠16; omega),iy (a:=a) (b:=b) (by simp[T.ks]) ay rfl bx rfl];have fa:=co sh d a m u k ha h;have ga:=ih a m u k ha h (by omega) hF;generalize obs sh d a m u=A at *;have fb:=co sh d b A.2.1 A.2.2 _ hb fa.m;have gb:=ih b A.2.1 A.2.2 _ hb fa.m (by omega) ga;generalize obs sh d b A.2.1 A.2.2=C at *;have ra:=fa.r;have rb:=fb.r;have hp:=zdc (op:=op) (by omega);split
   ·exact si sh _ _ gb fb.m (by omega) fun r A0=>uh hp (by decide) (by decide) (by omega) (by omega) A0
   ·exact(gb.lay (zuu (n:=0) (s:=txt0) hp (by omega) (by omega) (by omega) (by decide) (by decide))).free sh _
theorem zhg {con:T→Mk→Mk}{t:T}{k ka kb:Nat}{m:Mk}{r:Int}(h:Ff m)(hf:Fit k m)(hr:0≤r∧r≤k)(hk:k+2+ka+kb≤900000)
  (ha:∀ j m,Fit j m→j+ka≤900000→Ff m→Fit (j+ka) (con (t.kid 1) m)∧Ff (con (t.kid 1) m)) (hb:∀ j m,Fit j m→j+kb≤900000→Ff m→Fit (j+kb) (con (t.kid 2) m)∧Ff (con (t.kid 2) m)):Ff (either con r t m):=by
 obtain⟨A,B,C,D,hA,hB,hC,hD,e⟩:=cm con r t m;have fA:Fit (k+1) A:=by rw[hA]; exact hf.lay _
 have gA:Ff A:=by rw[hA]; exact h.lay (ea (op:=19) (a:=0) (n:=0) (by decide) (by decide) (by omega) (by decide))
 obtain⟨fB,gB⟩:=ha _ _ fA (by omega) gA;rw[←hB] at fB gB;have fK:=(fB.back fA (by omega)).lay (ix 20 0 0 0);have lK:=fK.len;have fC:Fit (k+1+ka+1) C:=by rw[hC]; exact fK.here _
 have gC:Ff C:=by rw[hC]; exact((gB.same (m':=B.back A.known) rfl rfl).lay (ea (op:=20) (a:=0) (b:=0) (n:=0) (by decide) (by decide) (by decide) (by decide))).here (by omega) _
 obtain⟨fD,gD⟩:=hb _ _ fC (by omega) gC;rw[←hD] at fD gD;have lD:=fD.len;rw[e];exact(gD.same (m':=D.back C.known) rfl rfl).here (by rw[ao]; omega) _
theorem sw (sh:Bool)(d:Nat):∀(t:T) (m:Mk) (k:Nat),t.letter=99→Fit k m→k+8 * t.size≤900000→Ff m→Ff (con sh d t m):=by
 induction d with
 |zero=>intro t m k _ _ _ h; exact h
 |succ d ih=>
  intro t m k hx h hk hF;have hn:=h.nx;have hl:=h.len;cases hw:bp t with
  |true=>rw[ns hw]; exact hF.call (by omega) t
  |false=>
   obtain⟨op,n,s,ks⟩:=t;have hz:(T.mk op n s ks).size=1+sizes ks:=by rw[T.size]
   obtain⟨w1,w2,w3,w4⟩:=mx hw;rcases bz hx with(⟨rfl,rfl⟩|⟨rfl,rfl⟩)|⟨h1,a,rfl,ha⟩|⟨rfl,o,a,rfl,ho,ha⟩|⟨h1,a,b,rfl,ha,hb⟩|⟨rfl,o,a,b,rfl,ho,ha,hb⟩|⟨rfl,o,a,rfl,ho,ha⟩
   ·rw[nj hw rfl]; exact hF.free sh _
   ·rw[qf hw rfl];have hs:=zxt (zme (letter_inv hx (by decide) (by decide)).2);exact(hF.lay (zuu (op:=27) (a:=0) (b:=0) (c:=0) (n:=0) (s:=s) (by decide) (by decide) (by decide) (by decide) (by decide) (by omega))).free sh _
   ·rcases h1 with rfl|rfl
    ·rw[nr hw rfl,ay];have hs:(T.mk 25 n s [a]).size=1+a.size:=by rw[hz]; simp[sizes]
     exact(ih a _ _ ha (h.lay _) (by omega) (hF.lay (ea (op:=24) (a:=0) (b:=0) (n:=0) (by decide) (by decide) (by decide) (by decide)))).free sh _
    ·exact absurd rfl w1
   ·rw[lj hw rfl,ay,bx];have hs:(T.mk 26 n s [o,a]).size=1+(o.size+a.size):=by rw[hz]; simp[sizes]
    have fo:=co sh d o m [] k (dc ho) h;have go:=zbj sh d o m [] k (dc ho) h (by omega) hF;have ro:=fo.r;exact(ih a _ _ ha (fo.m.lay _) (by omega) (go.lay (ea (op:=23) (a:=0) (n:=0) (by decide) (by decide) (by omega) (by decide)))).free sh _
   ·rcases h1 with rfl|rfl
    ·rw[nt hw rfl,ay,bx];have hs:(T.mk 27 n s [a,b]).size=1+(a.size+b.size):=by rw[hz]; simp[sizes]
     have f1:=cx sh d a _ _ ha (h.reg.lay (ix 25 m.next 0 0));have g1:=ih a _ _ ha (h.reg.lay (ix 25 m.next 0 0)) (by omega) ((hF.same (m':=m.reg) rfl rfl).lay (ea (op:=25) (b:=0) (n:=0) (by decide) (by omega) (by decide) (by decide)));exact(ih b _ _ hb (f1.lay _) (by omega) (g1.lay (ea (op:=26) (a:=0) (n:=0) (by decide) (by decide) (by omega) (by decide)))).free sh _
    ·exact absurd rfl w3
   ·rw[ss hw rfl,ay];have hs:(T.mk 28 n s [o,a,b]).size=1+(o.size+(a.size+b.size)):=by rw[hz]; simp[sizes]
    have fo:=co sh d o m [] k (cf ho) h;have go:=zbj sh d o m [] k (cf ho) h (by omega) hF;exact(zhg (ka:=8 * a.size) (kb:=8 * b.size) go fo.m fo.r (by omega) (fun j m hj hk hm=>by rw[bx]; exact⟨cx sh d a m j ha hj,ih a m j ha hj hk hm⟩) (fun j m hj hk hm=>by rw[ng]; exact⟨cx sh d b m j hb hj,ih b m j hb hj hk hm⟩)).free sh _
   ·exact absurd rfl w2
theorem zeu:∀(l:List Nat) (m:Mk),m.ins.length≤1000000→Ff m→Ff (hereAll m l)
 | [],_,_,h=>h
 |p::r,m,hl,h=>zeu r (m.here p) (by rw[ak]; exact hl) (h.here hl p)
theorem zdv {w:Wt}(h:WtFits w){d:Int}(hd:I64 d):WtFits { w with day:=d }:=⟨h.entry,hd,h.label,h.first,h.second⟩
theorem zfb {n:Int}(h:I64 n):I64 (cv n):=by unfold cv; split; exact dj (by decide); exact h
theorem zaq {k:Nat}{m:Mk}(j:Nat)(l:List Nat)(h:Ff m)(hf:Fit k m)(hk:k+3≤900000)(hj:j≤900000):Ff (again j m l):=by
 have g1:=h.setW j (fun w=>{ w with day:=cv w.day }) fun w hw=>zdv hw (zfb hw.day);have f1:=(hf.setW j fun w=>{ w with day:=cv w.day }).fin;have l1:=f1.len;have g2:=zeu l (m.setW j fun w=>{ w with day:=cv w.day }).fin (by omega) (g1.lay (ea (op:=30) (a:=0) (b:=0) (n:=0) (by decide) (by decide) (by decide) (by decide)));exact(g2.lay (ea (op:=28) (a:=0) (b:=0) (n:=j) (by decide) (by decide) (by decide) (by omega))).lay (ea (op:=30) (a:=0) (b:=0) (n:=0) (by decide) (by decide) (by decide) (by decide))
theorem zws {k:Nat}{m:Mk}(sh:Bool)(j:Nat)(t:T)(hx:t.letter=99)(hw:bp t=true)(h:Ff m)(hf:Fit k m)(hk:k+8 * t.size≤800000)(hj:j≤800000):Ff (wait sh j t m):=by
 have hl:=hf.len;have h0:Ff (waitIn j m):=(h.setW j _ fun w hw=>(⟨dj (by show _≤(m.ins.length:Int)∧(m.ins.length:Int)≤_; omega),hw.day,hw.label,hw.first,hw.second⟩:WtFits { w with entry:=(m.ins.length:Int) })).same rfl rfl;have f0:Fit k (waitIn j m):=(hf.setW j _).fresh;obtain⟨op,n,s,ks⟩:=t;have hz:(T.mk op n s ks).size=1+sizes ks:=by rw[T.size]
 rcases bz hx with(⟨rfl,rfl⟩|⟨rfl,rfl⟩)|⟨h1,a,rfl,ha⟩|⟨rfl,o,a,rfl,ho,ha⟩|⟨h1,a,b,rfl,ha,hb⟩|⟨rfl,o,a,b,rfl,ho,ha,hb⟩|⟨rfl,o,a,rfl,ho,ha⟩
 ·rw[bv (by omega)] at hw; cases hw
 ·rw[bv (by omega)] at hw; cases hw
 ·rcases h1 with rfl|rfl
  ·rw[bv (by omega)] at hw; cases hw
  ·have hs:(T.mk 29 n s [a]).size=1+a.size:=by rw[hz]; simp[sizes]
   have A0:=ue hx (.inl rfl);rw[kg rfl,ay];have f1:=(f0.setW j fun w=>{ w with day:=n }).lay (ix 22 0 0 n);have g1:=(h0.setW j (fun w=>{ w with day:=n }) fun w hw=>zdv hw (dj (by omega))).lay (ea (op:=22) (a:=0) (b:=0) (n:=n) (by decide) (by decide) (by decide) (by omega));have f2:=cx sh 200 a _ _ ha f1;have g2:=sw sh 200 a _ _ ha f1 (by omega) g1;exact zaq j _ g2 f2 (by omega) (by omega)
 ·have hs:(T.mk 26 n s [o,a]).size=1+(o.size+a.size):=by rw[hz]; simp[sizes]
  rw[fx rfl,ay,bx];have fo:=co sh 200 o _ [] _ (dc ho) f0;have go:=zbj sh 200 o _ [] _ (dc ho) f0 (by omega) h0;generalize obs sh 200 o (waitIn j m) []=O at *;have ro:=fo.r;have f1:=fo.m.lay (ix 23 0 O.1 0);have g1:=go.lay (ea (op:=23) (a:=0) (b:=O.1) (n:=0) (by decide) (by decide) (by omega) (by decide));exact zaq j _ (sw sh 200 a _ _ ha f1 (by omega) g1) (cx sh 200 a _ _ ha f1) (by omega) (by omega)
 ·rcases h1 with rfl|rfl
  ·rw[bv (by omega)] at hw; cases hw
  ·have hs:(T.mk 31 n s [a,b]).size=1+(a.size+b.size):=by rw[hz]; simp[sizes]
   have A0:=ue hx (.inr (.inr rfl));have A1:=Led.name_len (zgs hx);rw[ij rfl];obtain⟨A,C,B,D,hA,hC,hB,hD,e⟩:=ko sh j (T.mk 31 n s [a,b]) (waitIn j m);rw[ay] at hC;rw[bx] at hD;have A2:(waitIn j m).ins.length=m.ins.length:=rfl;have fA:Fit (k+3) A:=by rw[hA]; exact((f0.lay _).lay _).fin
   have gA:Ff A:=by rw[hA]; exact((h0.lay (ea (op:=21) (a:=0) (b:=0) (n:=n) (by decide) (by decide) (by decide) (by omega))).lay (ea (op:=28) (a:=0) (b:=0) (n:=j) (by decide) (by decide) (by decide) (by omega))).lay (ea (op:=30) (a:=0) (b:=0) (n:=0) (by decide) (by decide) (by decide) (by decide))
   have f1:=fA.lay (ix 21 0 0 n);have g1:=gA.lay (ea (op:=21) (a:=0) (b:=0) (n:=n) (by decide) (by decide) (by decide) (by omega));have fC:=cx sh 200 a _ _ ha f1;have gC:=sw sh 200 a _ _ ha f1 (by omega) g1;change C=con sh 200 a (A.lay (ix 21 0 0 n)) at hC
   rw[←hC] at fC gC;have fCf:=fC.fin;have lC:=fCf.len;have fB:Fit (k+3+1+8 * a.size+1) B:=by rw[hB]; exact(fCf.here _).here _
   have gB:Ff B:=by rw[hB]; exact((gC.lay (ea (op:=30) (a:=0) (b:=0) (n:=0) (by decide) (by decide) (by decide) (by decide))).here (by show C.fin.ins.length≤_; omega) _).here (by rw[ak]; show C.fin.ins.length≤_; omega) _
   have fD:=cx sh 200 b _ _ hb fB.fresh;have gD:=sw sh 200 b _ _ hb fB.fresh (by omega) (gB.same (m':=B.fresh) rfl rfl);rw[←hD] at fD gD;have lA:=fA.len;have lB:=fB.len;rw[e];exact(gD.lay (ea (op:=30) (a:=0) (b:=0) (n:=0) (by decide) (by decide) (by decide) (by decide))).setW j _ fun w hw=>⟨dj (by show _≤((waitIn j m).ins.length:Int)∧((waitIn j m).ins.length:Int)≤_; omega),zfb (dj (by show _≤n+1∧n+1≤_; omega)),by show s.size≤_; omega,dj (by show _≤(A.ins.length:Int)∧(A.ins.length:Int)≤_; omega),dj (by show _≤(B.ins.length:Int)∧(B.ins.length:Int)≤_; omega)⟩
 ·have hs:(T.mk 28 n s [o,a,b]).size=1+(o.size+(a.size+b.size)):=by rw[hz]; simp[sizes]
  rw[kf rfl,ay];have fo:=co sh 200 o _ [] _ (cf ho) f0;have go:=zbj sh 200 o _ [] _ (cf ho) f0 (by omega) h0;generalize obs sh 200 o (waitIn j m) []=O at *;have fe:=tm (con:=con sh 200) (t:=.mk 28 n s [o,a,b]) O.1 fo.m (fun k m h=>cx sh 200 a m k ha h) (fun k m h=>cx sh 200 b m k hb h);rw[bx,ng] at fe;have ge:=zhg (con:=con sh 200) (t:=.mk 28 n s [o,a,b]) (ka:=8 * a.size) (kb:=8 * b.size) go fo.m fo.r (by omega) (fun j m hj hk hm=>by rw[bx]; exact⟨cx sh 200 a m j ha hj,sw sh 200 a m j ha hj hk hm⟩) (fun j m hj hk hm=>by rw[ng]; exact⟨cx sh 200 b m j hb hj,sw sh 200 b m j hb hj hk hm⟩);exact zaq j _ ge fe (by omega) (by omega)
 ·have hs:(T.mk 30 n s [o,a]).size=1+(o.size+a.size):=by rw[hz]; simp[sizes]
  have A0:=ue hx (.inr (.inl rfl));rw[ii rfl,ay,bx];have f1:=(f0.setW j fun w=>{ w with day:=n+1 }).lay (ix 21 0 0 n);have g1:=(h0.setW j (fun w=>{ w with day:=n+1 }) fun w hw=>zdv hw (dj (by omega))).lay (ea (op:=21) (a:=0) (b:=0) (n:=n) (by decide) (by decide) (by decide) (by omega));change Ff (again j ((con sh 200 a ((obs sh 200 o (((waitIn j m).setW j fun w=>{ w with day:=n+1 }).lay (ix 21 0 0 n)) []).2.1.lay (ix 19 0 (obs sh 200 o (((waitIn j m).setW j fun w=>{ w with day:=n+1 }).lay (ix 21 0 0 n)) []).1 0))).here (waitIn j m).ins.length) ((obs sh 200 o (((waitIn j m).setW j fun w=>{ w with day:=n+1 }).lay (ix 21 0 0 n)) []).2.2++[(obs sh 200 o (((waitIn j m).setW j fun w=>{ w with day:=n+1 }).lay (ix 21 0 0 n)) []).2.1.ins.length]))
  generalize ((waitIn j m).setW j fun w=>{ w with day:=n+1 }).lay (ix 21 0 0 n)=Q at *;have fo:=co sh 200 o Q [] _ (cf ho) f1;have go:=zbj sh 200 o Q [] _ (cf ho) f1 (by omega) g1;generalize obs sh 200 o Q []=O at *;have ro:=fo.r;have f2:=fo.m.lay (ix 19 0 O.1 0);have g2:=go.lay (ea (op:=19) (a:=0) (b:=O.1) (n:=0) (by decide) (by decide) (by omega) (by decide));have f3:=cx sh 200 a _ _ ha f2;have g3:=sw sh 200 a _ _ ha f2 (by omega) g2;have l3:=f3.len;exact zaq j _ (g3.here (by omega) _) (f3.here _) (by omega) (by omega)
theorem zmh (sh:Bool){t:T}(hx:t.letter=99)(hd:t.depth≤200)(hs:t.size≤2000):Ff (eu sh t)∧0≤(eu sh t).regs∧(eu sh t).regs≤20000∧(eu sh t).ins.length≤20000∧(eu sh t).ws.length≤20000:=by
 obtain⟨hS,hT⟩:=zg sh t hx hd;have h0:Ff mk0:=⟨fun p x h=>by simp[mk0] at h,fun p x h=>by simp[mk0] at h⟩
 have A2:Fit 0 mk0:=⟨Nat.le_refl _,by decide,by decide,Nat.le_refl _,fun v r e=>by cases e⟩
 have h1:Ff (con sh 200 t mk0).fin:=(sw sh 200 t mk0 0 hx A2 (by omega) h0).lay (ea (op:=30) (a:=0) (b:=0) (n:=0) (by decide) (by decide) (by decide) (by decide));obtain⟨p,q,r⟩:=zmc (P:=Ff) sh (k:=8 * t.size+1) (fun m j u r hs' hp e=>by
  obtain⟨hj,A0,A1,A3⟩:=hs'.job e;obtain⟨hf,hk⟩:=hs'.fit e;have hl:=hs'.len;rw[zee];exact zws sh j u A0 A1 (hp.same rfl rfl) hf (by omega) (by omega)) t.size _ hS h1 hT
 have ql:=q.len;have qr:=q.rg;exact⟨p,by show 0≤(run sh t.size (con sh 200 t mk0).fin).regs; omega,by show(run sh t.size (con sh 200 t mk0).fin).regs≤_; omega,by show(run sh t.size (con sh 200 t mk0).fin).ins.length≤_; omega,by show(run sh t.size (con sh 200 t mk0).fin).ws.length≤_; omega⟩
end Gf
end
end Go.Proofs.YtanlmbbalamgkaaGreatDoor
