/- Proved: lemmas and contracts of the functions that the law reaches, part 31 of 36: GfFf. Conditions: as each states. -/
import Derived.Test.YtanlmbbalamgkaaGreatDoorVmi23
import Derived.Test.YtanlmbbalamgkaaGreatDoorVmi25
namespace Go.Proofs.YtanlmbbalamgkaaGreatDoor
set_option linter.unusedVariables false
set_option linter.unusedSimpArgs false
section
open Go.RowKit
namespace Gf
open Co Gen Dn
structure Ff (m:Mk):Prop where
 ins:∀(p:Nat) x,m.ins[p]? = some x→IxFits x
 ws:∀(p:Nat) w,m.ws[p]? = some w→WtFits w
theorem zbe {n:Int}(h : -1000000000000000≤n∧n≤1000000000000000):I64 n:=by unfold I64; omega
theorem zbr {op a b n:Int}(ho:0≤op∧op≤30)(ha:0≤a∧a≤1000000)(hb:0≤b∧b≤1000000)(hn : -1000000000000000≤n∧n≤1000000000000000):IxFits (ix op a b n):=
 ⟨zbe (by show _≤op∧op≤_; omega),zbe (by show _≤a∧a≤_; omega),zbe (by show _≤b∧b≤_; omega),zbe (by show _≤(0:Int)∧(0:Int)≤_; omega),zbe hn,by show txt0.size≤_; decide,zbe (by show _≤(0:Int)∧(0:Int)≤_; omega)⟩
theorem ixf7 {op a b c n:Int}{s:ByteArray}(ho:0≤op∧op≤30)(ha:0≤a∧a≤1000000)(hb:0≤b∧b≤1000000)(hc:0≤c∧c≤1000000)(hn : -1000000000000000≤n∧n≤1000000000000000)(hs:s.size≤2000000):IxFits ⟨op,a,b,c,n,s,0⟩:=
 ⟨zbe (by show _≤op∧op≤_; omega),zbe (by show _≤a∧a≤_; omega),zbe (by show _≤b∧b≤_; omega),zbe (by show _≤c∧c≤_; omega),zbe hn,hs,zbe (by show _≤(0:Int)∧(0:Int)≤_; omega)⟩
section
variable {m m':Mk}
theorem Ff.lay (h:Ff m){x:Ix}(hx:IxFits x):Ff (m.lay x):=⟨fun p y hy=>by
 have hy':(m.ins++[x])[p]? = some y:=hy
 rcases List.mem_append.1 (List.mem_of_getElem? hy') with h1|h1
 ·obtain⟨i,hi⟩:=List.getElem?_of_mem h1
  exact h.ins i y hi
 ·rw[List.mem_singleton] at h1; subst h1; exact hx,h.ws⟩
theorem Ff.here (h:Ff m)(hl:m.ins.length≤1000000)(p:Nat):Ff (m.here p):=⟨fun q y hy=>by
 rw[zii] at hy
 split at hy
 ·obtain⟨x,hx,rfl⟩:=Option.map_eq_some_iff.1 hy
  have h1:=h.ins q x hx
  exact⟨h1.op,h1.a,h1.b,h1.c,h1.n,h1.s,zbe (by show _≤(m.ins.length:Int)∧(m.ins.length:Int)≤_; omega)⟩
 ·exact h.ins q y hy,h.ws⟩
theorem Ff.same (h:Ff m)(h1:m'.ins=m.ins)(h2:m'.ws=m.ws):Ff m':=⟨by rw[h1]; exact h.ins,by rw[h2]; exact h.ws⟩
theorem Ff.free (h:Ff m)(sh:Bool)(r:Int):Ff (m.free sh r):=h.same (by unfold Mk.free; cases sh<;>rfl) (by unfold Mk.free; cases sh<;>rfl)
theorem qbd:WtFits wt0:=⟨zbe (by decide),zbe (by decide),by decide,zbe (by decide),zbe (by decide)⟩
theorem Ff.call (h:Ff m)(hw:m.ws.length≤1000000)(t:T):Ff (m.call t):=⟨(h.lay (zbr (op:=29) (a:=0) (b:=0) (n:=m.ws.length) (by decide) (by decide) (by decide) (by omega))).ins,fun p w hp=>by
 have hp':(m.ws++[wt0])[p]? = some w:=hp
 rcases List.mem_append.1 (List.mem_of_getElem? hp') with h1|h1
 ·obtain⟨i,hi⟩:=List.getElem?_of_mem h1
  exact h.ws i w hi
 ·rw[List.mem_singleton] at h1; subst h1; exact qbd⟩
theorem Ff.setW (h:Ff m)(j:Nat)(f:Wt→Wt)(hf:∀ w,WtFits w→WtFits (f w)):Ff (m.setW j f):=⟨h.ins,fun p w hp=>by
 have hp':(m.ws.modify j f)[p]? = some w:=hp
 rw[List.getElem?_modify] at hp'
 obtain⟨x,hx,e⟩:=Option.map_eq_some_iff.1 hp'
 have h1:=h.ws p x hx
 split at e
 ·subst e; exact hf x h1
 ·have:x=w:=e
  subst this
  exact h1⟩
theorem zhk {k:Nat}(sh:Bool)(v:Val)(u:List Nat)(h:Ff m)(hf:Fit k m)(hk:k≤900000)(hv:∀ r,0≤r∧r≤1000000→IxFits (v.ix r)):Ff (zak sh v m u).2.1:=by
 unfold zak
 split
 ·exact h
 ·have hn:=hf.nx
  exact((h.same (m':=m.reg) rfl rfl).lay (hv m.next (by omega))).same rfl rfl
theorem zih {k u:Nat}{o:Ob}(sh:Bool)(out:Int)(h:Ff o.2.1)(hf:FitO k u o)(hk:k≤900000)(ho:0≤out∧out≤1000000):Ff (into sh out o).1:=by
 have hr:=hf.r
 exact(h.lay (zbr (op:=18) (n:=0) (by decide) ho (by omega) (by decide))).free sh _
end
theorem zil {op n a b r:Int}{s:ByteArray}(ho:0≤op∧op≤30)(hn : -1000000000000000≤n∧n≤1000000000000000)(hs:s.size≤2000000)(ha:0≤a∧a≤1000000)(hb:0≤b∧b≤1000000)(hr:0≤r∧r≤1000000):IxFits ((⟨op,n,s,a,b⟩:Val).ix r):=
 ⟨zbe (by show _≤op∧op≤_; omega),zbe (by show _≤r∧r≤_; omega),zbe (by show _≤a∧a≤_; omega),zbe (by show _≤b∧b≤_; omega),zbe hn,hs,zbe (by show _≤(0:Int)∧(0:Int)≤_; omega)⟩
theorem znl {op:Int}(h:6≤op∧op≤21):0≤zah op∧zah op≤30:=by unfold zah; split<;>omega
theorem zma (sh:Bool)(d:Nat):∀(t:T) (m:Mk) (u:List Nat) (k:Nat),Obs t→Fit k m→k+8 * t.size≤900000→Ff m→Ff (obs sh d t m u).2.1:=by
 induction d with
 |zero=>intro t m u k _ _ _ h; exact h
 |succ d ih=>
  intro t m u k ht h hk hF
  obtain⟨op,n,s,ks⟩:=t
  have hz:(T.mk op n s ks).size=1+sizes ks:=by rw[T.size]
  have hn:=h.nx
  have hl:=h.len
  rcases zdj ht with h1|⟨rfl,h2⟩|⟨rfl,h2⟩|⟨h1,a,rfl,ha, -⟩|⟨h1,a,b,rfl,ha,hb⟩|⟨rfl,a,b,c,rfl,ha,hb,hc⟩|⟨h1,a,b,rfl,ha,hb⟩
  ·rw[zgt (t:=.mk op n s ks) h1]
   exact zhk sh _ u hF h (by omega) fun r hr=>zil (by decide) (fields_range (zib ht (by omega))) (by decide) (by decide) (by decide) hr
  ·rw[zio rfl]
   have hs:=Led.name_len (zzy (zib ht (by decide))).1
   exact zhk sh _ u hF h (by omega) fun r hr=>zil (by decide) (fields_range (zib ht (by decide))) (by show s.size≤_; omega) (by decide) (by decide) hr
  ·rw[zjv rfl]
   exact zhk sh _ u hF h (by omega) fun r hr=>zil (by decide) (fields_range (zib ht (by decide))) (by decide) (by decide) (by decide) hr
  ·have hs:(T.mk op n s [a]).size=1+a.size:=by rw[hz]; simp[sizes]
   rw[zfs (by show 6≤op∧op≤21∧op≠15∧op≠16; omega),zdq (a:=a) (by simp[T.ks]) kid0 rfl]
   have fa:=zat sh d a m u k ha h
   have ga:=ih a m u k ha h (by omega) hF
   have hr:=fa.r
   have hp:=znl (op:=op) (by omega)
   split
   ·exact zhk sh _ _ ga fa.m (by omega) fun r hr2=>zil hp (by decide) (by decide) (by omega) (by decide) hr2
   ·exact(ga.lay (ixf7 (c:=0) (n:=0) (s:=txt0) hp (by omega) (by omega) (by decide) (by decide) (by decide))).free sh _
  ·have hs:(T.mk op n s [a,b]).size=1+(a.size+b.size):=by rw[hz]; simp[sizes]
   have oa:=zat sh d a m.reg u (k+1) (zbd ha) h.reg
   have fa:=zce sh oa (out:=m.next) (by omega)
   have ga:=zih sh m.next (ih a m.reg u (k+1) (zbd ha) h.reg (by omega) (hF.same rfl rfl)) oa (by omega) (by omega)
   rcases h1 with rfl|rfl
   ·rw[zjw rfl]
    unfold chosen zdi
    simp only[kid0,kid1]
    generalize into sh m.next (obs sh d a m.reg u)=A at *
    have f1:=fa.1.lay (ix 19 0 m.next 0)
    have g1:=ga.lay (zbr (op:=19) (a:=0) (b:=m.next) (n:=0) (by decide) (by decide) (by omega) (by decide))
    have ob:=zat sh d b _ A.2 _ hb f1
    have fb:=zce sh ob (out:=m.next) (by omega)
    have gb:=zih sh m.next (ih b _ A.2 _ hb f1 (by omega) g1) ob (by omega) (by omega)
    generalize into sh m.next (obs sh d b (A.1.lay (ix 19 0 m.next 0)) A.2)=C at *
    have fl:=fb.1.len
    exact((gb.same (m':=C.1.back (A.1.lay (ix 19 0 m.next 0)).known) rfl rfl).here (by rw[zai]; omega) _).free sh _
   ·rw[zly rfl]
    unfold chosen zec
    simp only[kid0,kid1]
    generalize into sh m.next (obs sh d a m.reg u)=A at *
    have f1:=((fa.1.lay (ix 19 0 m.next 0)).lay (ix 20 0 0 0)).here A.1.ins.length
    have fl1:=f1.len
    rw[zaf] at fl1
    have g1:=((ga.lay (zbr (op:=19) (a:=0) (b:=m.next) (n:=0) (by decide) (by decide) (by omega) (by decide))).lay (zbr (op:=20) (a:=0) (b:=0) (n:=0) (by decide) (by decide) (by decide) (by decide))).here (by omega) A.1.ins.length
    have ob:=zat sh d b _ A.2 _ hb f1
    have fb:=zce sh ob (out:=m.next) (by omega)
    have gb:=zih sh m.next (ih b _ A.2 _ hb f1 (by omega) g1) ob (by omega) (by omega)
    generalize into sh m.next (obs sh d b (((A.1.lay (ix 19 0 m.next 0)).lay (ix 20 0 0 0)).here A.1.ins.length) A.2)=C at *
    have fl:=fb.1.len
    exact((gb.same (m':=C.1.back (((A.1.lay (ix 19 0 m.next 0)).lay (ix 20 0 0 0)).here A.1.ins.length).known) rfl rfl).here (by rw[zai]; omega) _).free sh _
  ·have hs:(T.mk 22 n s [a,b,c]).size=1+(a.size+(b.size+c.size)):=by rw[hz]; simp[sizes]
   have oa:=zat sh d a m.reg u (k+1) (zbd ha) h.reg
   have fa:=zce sh oa (out:=m.next) (by omega)
   have ga:=zih sh m.next (ih a m.reg u (k+1) (zbd ha) h.reg (by omega) (hF.same rfl rfl)) oa (by omega) (by omega)
   rw[zlz rfl]
   unfold chosen zed
   simp only[kid0,kid1,kid2]
   generalize into sh m.next (obs sh d a m.reg u)=A at *
   have f1:=fa.1.lay (ix 19 0 m.next 0)
   have g1:=ga.lay (zbr (op:=19) (a:=0) (b:=m.next) (n:=0) (by decide) (by decide) (by omega) (by decide))
   have ob:=zat sh d b _ A.2 _ hb f1
   have fb:=zce sh ob (out:=m.next) (by omega)
   have gb:=zih sh m.next (ih b _ A.2 _ hb f1 (by omega) g1) ob (by omega) (by omega)
   generalize into sh m.next (obs sh d b (A.1.lay (ix 19 0 m.next 0)) A.2)=C at *
   have f2:=((fb.1.back f1 (by omega)).lay (ix 20 0 0 0)).here A.1.ins.length
   have fl2:=f2.len
   rw[zaf] at fl2
   have g2:=((gb.same (m':=C.1.back (A.1.lay (ix 19 0 m.next 0)).known) rfl rfl).lay (zbr (op:=20) (a:=0) (b:=0) (n:=0) (by decide) (by decide) (by decide) (by decide))).here (by omega) A.1.ins.length
   have oc:=zat sh d c _ C.2 _ hc f2
   have fc:=zce sh oc (out:=m.next) (by omega)
   have gc:=zih sh m.next (ih c _ C.2 _ hc f2 (by omega) g2) oc (by omega) (by omega)
   generalize into sh m.next (obs sh d c (((C.1.back (A.1.lay (ix 19 0 m.next 0)).known).lay (ix 20 0 0 0)).here A.1.ins.length) C.2)=F at *
   have fl:=fc.1.len
   exact((gc.same (m':=F.1.back (((C.1.back (A.1.lay (ix 19 0 m.next 0)).known).lay (ix 20 0 0 0)).here A.1.ins.length).known) rfl rfl).here (by rw[zai]; omega) _).free sh _
  ·have hs:(T.mk op n s [a,b]).size=1+(a.size+b.size):=by rw[hz]; simp[sizes]
   unfold zcv at h1
   rw[zfs (by show 6≤op∧op≤21∧op≠15∧op≠16; omega),zdp (a:=a) (b:=b) (by simp[T.ks]) kid0 rfl kid1 rfl]
   have fa:=zat sh d a m u k ha h
   have ga:=ih a m u k ha h (by omega) hF
   generalize obs sh d a m u=A at *
   have fb:=zat sh d b A.2.1 A.2.2 _ hb fa.m
   have gb:=ih b A.2.1 A.2.2 _ hb fa.m (by omega) ga
   generalize obs sh d b A.2.1 A.2.2=C at *
   have ra:=fa.r
   have rb:=fb.r
   have hp:=znl (op:=op) (by omega)
   split
   ·exact zhk sh _ _ gb fb.m (by omega) fun r hr2=>zil hp (by decide) (by decide) (by omega) (by omega) hr2
   ·exact(gb.lay (ixf7 (n:=0) (s:=txt0) hp (by omega) (by omega) (by omega) (by decide) (by decide))).free sh _
theorem zrg {con:T→Mk→Mk}{t:T}{k ka kb:Nat}{m:Mk}{r:Int}(h:Ff m)(hf:Fit k m)(hr:0≤r∧r≤k)(hk:k+2+ka+kb≤900000)
  (ha:∀ j m,Fit j m→j+ka≤900000→Ff m→Fit (j+ka) (con (t.kid 1) m)∧Ff (con (t.kid 1) m)) (hb:∀ j m,Fit j m→j+kb≤900000→Ff m→Fit (j+kb) (con (t.kid 2) m)∧Ff (con (t.kid 2) m)):Ff (either con r t m):=by
 obtain⟨A,B,C,D,hA,hB,hC,hD,e⟩:=zba con r t m
 have fA:Fit (k+1) A:=by rw[hA]; exact hf.lay _
 have gA:Ff A:=by rw[hA]; exact h.lay (zbr (op:=19) (a:=0) (n:=0) (by decide) (by decide) (by omega) (by decide))
 obtain⟨fB,gB⟩:=ha _ _ fA (by omega) gA
 rw[←hB] at fB gB
 have fK:=(fB.back fA (by omega)).lay (ix 20 0 0 0)
 have lK:=fK.len
 have fC:Fit (k+1+ka+1) C:=by rw[hC]; exact fK.here _
 have gC:Ff C:=by rw[hC]; exact((gB.same (m':=B.back A.known) rfl rfl).lay (zbr (op:=20) (a:=0) (b:=0) (n:=0) (by decide) (by decide) (by decide) (by decide))).here (by omega) _
 obtain⟨fD,gD⟩:=hb _ _ fC (by omega) gC
 rw[←hD] at fD gD
 have lD:=fD.len
 rw[e]
 exact(gD.same (m':=D.back C.known) rfl rfl).here (by rw[zai]; omega) _
theorem zhs (sh:Bool)(d:Nat):∀(t:T) (m:Mk) (k:Nat),t.letter=99→Fit k m→k+8 * t.size≤900000→Ff m→Ff (con sh d t m):=by
 induction d with
 |zero=>intro t m k _ _ _ h; exact h
 |succ d ih=>
  intro t m k hx h hk hF
  have hn:=h.nx
  have hl:=h.len
  cases hw:zax t with
  |true=>rw[zhc hw]; exact hF.call (by omega) t
  |false=>
   obtain⟨op,n,s,ks⟩:=t
   have hz:(T.mk op n s ks).size=1+sizes ks:=by rw[T.size]
   obtain⟨w1,w2,w3,w4⟩:=zgr hw
   rcases zbm hx with(⟨rfl,rfl⟩|⟨rfl,rfl⟩)|⟨h1,a,rfl,ha⟩|⟨rfl,o,a,rfl,ho,ha⟩|⟨h1,a,b,rfl,ha,hb⟩|⟨rfl,o,a,b,rfl,ho,ha,hb⟩|⟨rfl,o,a,rfl,ho,ha⟩
   ·rw[zgz hw rfl]; exact hF.free sh _
   ·rw[zik hw rfl]
    have hs:=qfe (qeu (letter_inv hx (by decide) (by decide)).2)
    exact(hF.lay (ixf7 (op:=27) (a:=0) (b:=0) (c:=0) (n:=0) (s:=s) (by decide) (by decide) (by decide) (by decide) (by decide) (by omega))).free sh _
   ·rcases h1 with rfl|rfl
    ·rw[zhb hw rfl,kid0]
     have hs:(T.mk 25 n s [a]).size=1+a.size:=by rw[hz]; simp[sizes]
     exact(ih a _ _ ha (h.lay _) (by omega) (hF.lay (zbr (op:=24) (a:=0) (b:=0) (n:=0) (by decide) (by decide) (by decide) (by decide)))).free sh _
    ·exact absurd rfl w1
   ·rw[zgf hw rfl,kid0,kid1]
    have hs:(T.mk 26 n s [o,a]).size=1+(o.size+a.size):=by rw[hz]; simp[sizes]
    have fo:=zat sh d o m [] k (zaz ho) h
    have go:=zma sh d o m [] k (zaz ho) h (by omega) hF
    have ro:=fo.r
    exact(ih a _ _ ha (fo.m.lay _) (by omega) (go.lay (zbr (op:=23) (a:=0) (n:=0) (by decide) (by decide) (by omega) (by decide)))).free sh _
   ·rcases h1 with rfl|rfl
    ·rw[zhd hw rfl,kid0,kid1]
     have hs:(T.mk 27 n s [a,b]).size=1+(a.size+b.size):=by rw[hz]; simp[sizes]
     have f1:=zav sh d a _ _ ha (h.reg.lay (ix 25 m.next 0 0))
     have g1:=ih a _ _ ha (h.reg.lay (ix 25 m.next 0 0)) (by omega) ((hF.same (m':=m.reg) rfl rfl).lay (zbr (op:=25) (b:=0) (n:=0) (by decide) (by omega) (by decide) (by decide)))
     exact(ih b _ _ hb (f1.lay _) (by omega) (g1.lay (zbr (op:=26) (a:=0) (n:=0) (by decide) (by decide) (by omega) (by decide)))).free sh _
    ·exact absurd rfl w3
   ·rw[zkd hw rfl,kid0]
    have hs:(T.mk 28 n s [o,a,b]).size=1+(o.size+(a.size+b.size)):=by rw[hz]; simp[sizes]
    have fo:=zat sh d o m [] k (zbd ho) h
    have go:=zma sh d o m [] k (zbd ho) h (by omega) hF
    exact(zrg (ka:=8 * a.size) (kb:=8 * b.size) go fo.m fo.r (by omega) (fun j m hj hk hm=>by rw[kid1]; exact⟨zav sh d a m j ha hj,ih a m j ha hj hk hm⟩) (fun j m hj hk hm=>by rw[kid2]; exact⟨zav sh d b m j hb hj,ih b m j hb hj hk hm⟩)).free sh _
   ·exact absurd rfl w2
theorem zoz:∀(l:List Nat) (m:Mk),m.ins.length≤1000000→Ff m→Ff (hereAll m l)
 | [],_,_,h=>h
 |p::r,m,hl,h=>zoz r (m.here p) (by rw[zaf]; exact hl) (h.here hl p)
theorem zoc {w:Wt}(h:WtFits w){d:Int}(hd:I64 d):WtFits { w with day:=d }:=⟨h.entry,hd,h.label,h.first,h.second⟩
theorem zpi {n:Int}(h:I64 n):I64 (zck n):=by unfold zck; split; exact zbe (by decide); exact h
theorem zlh {k:Nat}{m:Mk}(j:Nat)(l:List Nat)(h:Ff m)(hf:Fit k m)(hk:k+3≤900000)(hj:j≤900000):Ff (again j m l):=by
 have g1:=h.setW j (fun w=>{ w with day:=zck w.day }) fun w hw=>zoc hw (zpi hw.day)
 have f1:=(hf.setW j fun w=>{ w with day:=zck w.day }).fin
 have l1:=f1.len
 have g2:=zoz l (m.setW j fun w=>{ w with day:=zck w.day }).fin (by omega) (g1.lay (zbr (op:=30) (a:=0) (b:=0) (n:=0) (by decide) (by decide) (by decide) (by decide)))
 exact(g2.lay (zbr (op:=28) (a:=0) (b:=0) (n:=j) (by decide) (by decide) (by decide) (by omega))).lay (zbr (op:=30) (a:=0) (b:=0) (n:=0) (by decide) (by decide) (by decide) (by decide))
theorem qek {k:Nat}{m:Mk}(sh:Bool)(j:Nat)(t:T)(hx:t.letter=99)(hw:zax t=true)(h:Ff m)(hf:Fit k m)(hk:k+8 * t.size≤800000)(hj:j≤800000):Ff (wait sh j t m):=by
 have hl:=hf.len
 have h0:Ff (waitIn j m):=(h.setW j _ fun w hw=>(⟨zbe (by show _≤(m.ins.length:Int)∧(m.ins.length:Int)≤_; omega),hw.day,hw.label,hw.first,hw.second⟩:WtFits { w with entry:=(m.ins.length:Int) })).same rfl rfl
 have f0:Fit k (waitIn j m):=(hf.setW j _).fresh
 obtain⟨op,n,s,ks⟩:=t
 have hz:(T.mk op n s ks).size=1+sizes ks:=by rw[T.size]
 rcases zbm hx with(⟨rfl,rfl⟩|⟨rfl,rfl⟩)|⟨h1,a,rfl,ha⟩|⟨rfl,o,a,rfl,ho,ha⟩|⟨h1,a,b,rfl,ha,hb⟩|⟨rfl,o,a,b,rfl,ho,ha,hb⟩|⟨rfl,o,a,rfl,ho,ha⟩
 ·rw[zbb (by omega)] at hw; cases hw
 ·rw[zbb (by omega)] at hw; cases hw
 ·rcases h1 with rfl|rfl
  ·rw[zbb (by omega)] at hw; cases hw
  ·have hs:(T.mk 29 n s [a]).size=1+a.size:=by rw[hz]; simp[sizes]
   have hday:=zqe hx (.inl rfl)
   rw[zeu rfl,kid0]
   have f1:=(f0.setW j fun w=>{ w with day:=n }).lay (ix 22 0 0 n)
   have g1:=(h0.setW j (fun w=>{ w with day:=n }) fun w hw=>zoc hw (zbe (by omega))).lay (zbr (op:=22) (a:=0) (b:=0) (n:=n) (by decide) (by decide) (by decide) (by omega))
   have f2:=zav sh 200 a _ _ ha f1
   have g2:=zhs sh 200 a _ _ ha f1 (by omega) g1
   exact zlh j _ g2 f2 (by omega) (by omega)
 ·have hs:(T.mk 26 n s [o,a]).size=1+(o.size+a.size):=by rw[hz]; simp[sizes]
  rw[zdf rfl,kid0,kid1]
  have fo:=zat sh 200 o _ [] _ (zaz ho) f0
  have go:=zma sh 200 o _ [] _ (zaz ho) f0 (by omega) h0
  generalize obs sh 200 o (waitIn j m) []=O at *
  have ro:=fo.r
  have f1:=fo.m.lay (ix 23 0 O.1 0)
  have g1:=go.lay (zbr (op:=23) (a:=0) (b:=O.1) (n:=0) (by decide) (by decide) (by omega) (by decide))
  exact zlh j _ (zhs sh 200 a _ _ ha f1 (by omega) g1) (zav sh 200 a _ _ ha f1) (by omega) (by omega)
 ·rcases h1 with rfl|rfl
  ·rw[zbb (by omega)] at hw; cases hw
  ·have hs:(T.mk 31 n s [a,b]).size=1+(a.size+b.size):=by rw[hz]; simp[sizes]
   have hday:=zqe hx (.inr (.inr rfl))
   have hname:=Led.name_len (zyt hx)
   rw[zdo rfl]
   obtain⟨A,C,B,D,hA,hC,hB,hD,e⟩:=zfk sh j (T.mk 31 n s [a,b]) (waitIn j m)
   rw[kid0] at hC
   rw[kid1] at hD
   have hil:(waitIn j m).ins.length=m.ins.length:=rfl
   have fA:Fit (k+3) A:=by rw[hA]; exact((f0.lay _).lay _).fin
   have gA:Ff A:=by rw[hA]; exact((h0.lay (zbr (op:=21) (a:=0) (b:=0) (n:=n) (by decide) (by decide) (by decide) (by omega))).lay (zbr (op:=28) (a:=0) (b:=0) (n:=j) (by decide) (by decide) (by decide) (by omega))).lay (zbr (op:=30) (a:=0) (b:=0) (n:=0) (by decide) (by decide) (by decide) (by decide))
   have f1:=fA.lay (ix 21 0 0 n)
   have g1:=gA.lay (zbr (op:=21) (a:=0) (b:=0) (n:=n) (by decide) (by decide) (by decide) (by omega))
   have fC:=zav sh 200 a _ _ ha f1
   have gC:=zhs sh 200 a _ _ ha f1 (by omega) g1
   change C=con sh 200 a (A.lay (ix 21 0 0 n)) at hC
   rw[←hC] at fC gC
   have fCf:=fC.fin
   have lC:=fCf.len
   have fB:Fit (k+3+1+8 * a.size+1) B:=by rw[hB]; exact(fCf.here _).here _
   have gB:Ff B:=by rw[hB]; exact((gC.lay (zbr (op:=30) (a:=0) (b:=0) (n:=0) (by decide) (by decide) (by decide) (by decide))).here (by show C.fin.ins.length≤_; omega) _).here (by rw[zaf]; show C.fin.ins.length≤_; omega) _
   have fD:=zav sh 200 b _ _ hb fB.fresh
   have gD:=zhs sh 200 b _ _ hb fB.fresh (by omega) (gB.same (m':=B.fresh) rfl rfl)
   rw[←hD] at fD gD
   have lA:=fA.len
   have lB:=fB.len
   rw[e]
   exact(gD.lay (zbr (op:=30) (a:=0) (b:=0) (n:=0) (by decide) (by decide) (by decide) (by decide))).setW j _ fun w hw=>⟨zbe (by show _≤((waitIn j m).ins.length:Int)∧((waitIn j m).ins.length:Int)≤_; omega),zpi (zbe (by show _≤n+1∧n+1≤_; omega)),by show s.size≤_; omega,zbe (by show _≤(A.ins.length:Int)∧(A.ins.length:Int)≤_; omega),zbe (by show _≤(B.ins.length:Int)∧(B.ins.length:Int)≤_; omega)⟩
 ·have hs:(T.mk 28 n s [o,a,b]).size=1+(o.size+(a.size+b.size)):=by rw[hz]; simp[sizes]
  rw[zet rfl,kid0]
  have fo:=zat sh 200 o _ [] _ (zbd ho) f0
  have go:=zma sh 200 o _ [] _ (zbd ho) f0 (by omega) h0
  generalize obs sh 200 o (waitIn j m) []=O at *
  have fe:=zid (con:=con sh 200) (t:=.mk 28 n s [o,a,b]) O.1 fo.m (fun k m h=>zav sh 200 a m k ha h) (fun k m h=>zav sh 200 b m k hb h)
  rw[kid1,kid2] at fe
  have ge:=zrg (con:=con sh 200) (t:=.mk 28 n s [o,a,b]) (ka:=8 * a.size) (kb:=8 * b.size) go fo.m fo.r (by omega) (fun j m hj hk hm=>by rw[kid1]; exact⟨zav sh 200 a m j ha hj,zhs sh 200 a m j ha hj hk hm⟩) (fun j m hj hk hm=>by rw[kid2]; exact⟨zav sh 200 b m j hb hj,zhs sh 200 b m j hb hj hk hm⟩)
  exact zlh j _ ge fe (by omega) (by omega)
 ·have hs:(T.mk 30 n s [o,a]).size=1+(o.size+a.size):=by rw[hz]; simp[sizes]
  have hday:=zqe hx (.inr (.inl rfl))
  rw[zdn rfl,kid0,kid1]
  have f1:=(f0.setW j fun w=>{ w with day:=n+1 }).lay (ix 21 0 0 n)
  have g1:=(h0.setW j (fun w=>{ w with day:=n+1 }) fun w hw=>zoc hw (zbe (by omega))).lay (zbr (op:=21) (a:=0) (b:=0) (n:=n) (by decide) (by decide) (by decide) (by omega))
  change Ff (again j ((con sh 200 a ((obs sh 200 o (((waitIn j m).setW j fun w=>{ w with day:=n+1 }).lay (ix 21 0 0 n)) []).2.1.lay (ix 19 0 (obs sh 200 o (((waitIn j m).setW j fun w=>{ w with day:=n+1 }).lay (ix 21 0 0 n)) []).1 0))).here (waitIn j m).ins.length) ((obs sh 200 o (((waitIn j m).setW j fun w=>{ w with day:=n+1 }).lay (ix 21 0 0 n)) []).2.2++[(obs sh 200 o (((waitIn j m).setW j fun w=>{ w with day:=n+1 }).lay (ix 21 0 0 n)) []).2.1.ins.length]))
  generalize ((waitIn j m).setW j fun w=>{ w with day:=n+1 }).lay (ix 21 0 0 n)=Q at *
  have fo:=zat sh 200 o Q [] _ (zbd ho) f1
  have go:=zma sh 200 o Q [] _ (zbd ho) f1 (by omega) g1
  generalize obs sh 200 o Q []=O at *
  have ro:=fo.r
  have f2:=fo.m.lay (ix 19 0 O.1 0)
  have g2:=go.lay (zbr (op:=19) (a:=0) (b:=O.1) (n:=0) (by decide) (by decide) (by omega) (by decide))
  have f3:=zav sh 200 a _ _ ha f2
  have g3:=zhs sh 200 a _ _ ha f2 (by omega) g2
  have l3:=f3.len
  exact zlh j _ (g3.here (by omega) _) (f3.here _) (by omega) (by omega)
theorem zvz (sh:Bool){t:T}(hx:t.letter=99)(hd:t.depth≤200)(hs:t.size≤2000):Ff (make sh t)∧0≤(make sh t).regs∧(make sh t).regs≤20000∧(make sh t).ins.length≤20000∧(make sh t).ws.length≤20000:=by
 obtain⟨hS,hT⟩:=zns sh t hx hd
 have h0:Ff mk0:=⟨fun p x h=>by simp[mk0] at h,fun p x h=>by simp[mk0] at h⟩
 have hf0:Fit 0 mk0:=⟨Nat.le_refl _,by decide,by decide,Nat.le_refl _,fun v r e=>by cases e⟩
 have h1:Ff (con sh 200 t mk0).fin:=(zhs sh 200 t mk0 0 hx hf0 (by omega) h0).lay (zbr (op:=30) (a:=0) (b:=0) (n:=0) (by decide) (by decide) (by decide) (by decide))
 obtain⟨p,q,r⟩:=qes (P:=Ff) sh (k:=8 * t.size+1) (fun m j u r hs' hp e=>by
  obtain⟨hj,hx',hw',hd'⟩:=hs'.job e
  obtain⟨hf,hk⟩:=hs'.fit e
  have hl:=hs'.len
  rw[zoj]
  exact qek sh j u hx' hw' (hp.same rfl rfl) hf (by omega) (by omega)) t.size _ hS h1 hT
 have ql:=q.len
 have qr:=q.rg
 exact⟨p,by show 0≤(run sh t.size (con sh 200 t mk0).fin).regs; omega,by show(run sh t.size (con sh 200 t mk0).fin).regs≤_; omega,by show(run sh t.size (con sh 200 t mk0).fin).ins.length≤_; omega,by show(run sh t.size (con sh 200 t mk0).fin).ws.length≤_; omega⟩
end Gf
end
end Go.Proofs.YtanlmbbalamgkaaGreatDoor
