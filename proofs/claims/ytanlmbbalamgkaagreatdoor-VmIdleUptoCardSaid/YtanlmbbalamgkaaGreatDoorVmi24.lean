/- Proved: lemmas and contracts of the functions that the law reaches, part 24 of 36: DnPlain, DnChain, DnObs, GfFit, GfConP, GfWaitP, GfWl, GfJobs, GfJobs2, GfTot, GfGrow, GfExt, GfRunP, SmDen, GfUnk, SmRun, SmObs, SmObs2, SmObs3, GfRt, GfRt2. Conditions: as each states. -/
import Derived.Test.YtanlmbbalamgkaaGreatDoorVmi10
import Derived.Test.YtanlmbbalamgkaaGreatDoorVmi22
namespace Go.Proofs.YtanlmbbalamgkaaGreatDoor
set_option linter.unusedVariables false
set_option linter.unusedSimpArgs false
section
open Go.RowKit
namespace Dn
open Co
theorem zsy {ks:List T}(h:([]:List UInt8)=ks.map T.letter):ks=[]:=by cases ks with|nil=>rfl|cons a r=>cases h
theorem zmz {ks:List T}{a:UInt8}(h:[a]=ks.map T.letter):∃ k,ks=[k]∧k.letter=a:=by
 match ks,h with
 | [k],h=>exact⟨k,rfl,by simpa using h.symm⟩
theorem zco {ks:List T}{a b:UInt8}(h:[a,b]=ks.map T.letter):∃ k j,ks=[k,j]∧k.letter=a∧j.letter=b:=by
 match ks,h with
 | [k,j],h=>exact⟨k,j,rfl,by simpa using h.symm⟩
theorem zyx {ks:List T}{a b c:UInt8}(h:[a,b,c]=ks.map T.letter):∃ k j i,ks=[k,j,i]∧k.letter=a∧j.letter=b∧i.letter=c:=by
 match ks,h with
 | [k,j,i],h=>exact⟨k,j,i,rfl,by simpa using h.symm⟩
theorem zbm {op n:Int}{s:ByteArray}{ks:List T}(h:(T.mk op n s ks).letter=99):
  ((op=23∧ks=[])∨(op=24∧ks=[]))∨((op=25∨op=29)∧∃ k,ks=[k]∧k.letter=99)∨(op=26∧∃ o k,ks=[o,k]∧o.letter=110∧k.letter=99) ∨
  ((op=27∨op=31)∧∃ k j,ks=[k,j]∧k.letter=99∧j.letter=99)∨(op=28∧∃ o k j,ks=[o,k,j]∧o.letter=98∧k.letter=99∧j.letter=99)∨(op=30∧∃ o k,ks=[o,k]∧o.letter=98∧k.letter=99):=by
 have h22:op≠22:=by
  rintro rfl
  obtain⟨_,_,_,_,_,_,_,h4,_⟩:=(letter_22 (x:=99) (by decide)).1 h
  exact h4 rfl
 obtain⟨hw, -⟩:=letter_inv h (by decide) h22
 rcases op_cases (want_in hw) with rfl|rfl|rfl|rfl|rfl|rfl|rfl|rfl|rfl|rfl|rfl|rfl|rfl|rfl|rfl|rfl|rfl|rfl|rfl|rfl|rfl|rfl|rfl|rfl|rfl|rfl|rfl|rfl|rfl|rfl|rfl
 all_goals first|exact absurd rfl h22|skip
 all_goals simp only[want_1,want_2,want_3,want_4,want_5,want_6,want_7,want_8,want_9,want_10,want_11,want_12,want_13,want_14,want_15,want_16,want_17,want_18,want_19,want_20,want_21,want_22,want_23,want_24,want_25,want_26,want_27,want_28,want_29,want_30,want_31,Option.some.injEq,Prod.mk.injEq] at hw
 all_goals try exact absurd hw.2 (by decide)
 ·exact .inl (.inl ⟨rfl,zsy hw.1⟩)
 ·exact .inl (.inr ⟨rfl,zsy hw.1⟩)
 ·exact .inr (.inl ⟨.inl rfl,zmz hw.1⟩)
 ·exact .inr (.inr (.inl ⟨rfl,zco hw.1⟩))
 ·exact .inr (.inr (.inr (.inl ⟨.inl rfl,zco hw.1⟩)))
 ·exact .inr (.inr (.inr (.inr (.inl ⟨rfl,zyx hw.1⟩))))
 ·exact .inr (.inl ⟨.inr rfl,zmz hw.1⟩)
 ·exact .inr (.inr (.inr (.inr (.inr ⟨rfl,zco hw.1⟩))))
 ·exact .inr (.inr (.inr (.inl ⟨.inr rfl,zco hw.1⟩)))
section
variable {P:T→Int→Int→Prop}{t0:T}{a0:Int}
end
end Dn
end
section
open Go.RowKit
namespace Dn
open Co
def Obs (t:T):Prop:=t.letter≠0∧t.letter≠99
theorem zaz {t:T}(h:t.letter=110):Obs t:=by unfold Obs; rw[h]; decide
theorem zbd {t:T}(h:t.letter=98):Obs t:=by unfold Obs; rw[h]; decide
theorem zct {t:T}(h:t.letter=100):Obs t:=by unfold Obs; rw[h]; decide
def zcv (op:Int):Prop:=7≤op∧op≤21∧op≠14∧op≠15∧op≠16
theorem zdj {op n:Int}{s:ByteArray}{ks:List T}(h:Obs (.mk op n s ks)):
  (op=1∨op=2∨op=3)∨(op=4 ∧ -3660≤n∧n≤3660)∨(op=5 ∧ -3660≤n∧n≤3660)∨((op=6∨op=14)∧∃ k,ks=[k]∧Obs k∧(op=14→k.letter=98)) ∨
  ((op=15∨op=16)∧∃ k j,ks=[k,j]∧k.letter=98∧Obs j)∨(op=22∧∃ k j i,ks=[k,j,i]∧k.letter=98∧Obs j∧Obs i)∨(zcv op∧∃ k j,ks=[k,j]∧Obs k∧Obs j):=by
 obtain⟨h0,h99⟩:=h
 by_cases h22:op=22
 ·subst h22
  obtain⟨a,b,c,rfl,h1,h2,h3,h4, -⟩:=(letter_22 h0).1 rfl
  exact .inr (.inr (.inr (.inr (.inr (.inl ⟨rfl,a,b,c,rfl,h1,⟨by rw[h2]; exact h0,by rw[h2]; exact h99⟩,⟨by rw[h3]; exact h0,by rw[h3]; exact h99⟩⟩)))))
 ·obtain⟨hw,hf⟩:=letter_inv rfl h0 h22
  generalize hx:(T.mk op n s ks).letter=x at *
  rcases op_cases (want_in hw) with rfl|rfl|rfl|rfl|rfl|rfl|rfl|rfl|rfl|rfl|rfl|rfl|rfl|rfl|rfl|rfl|rfl|rfl|rfl|rfl|rfl|rfl|rfl|rfl|rfl|rfl|rfl|rfl|rfl|rfl|rfl
  rotate_left 21
  ·exact absurd rfl h22
  all_goals try (exfalso; apply h99; simp only[want_23,want_24,want_25,want_26,want_27,want_28,want_29,want_30,want_31,Option.some.injEq,Prod.mk.injEq] at hw; exact hw.2.symm)
  all_goals simp only[want_1,want_2,want_3,want_4,want_5,want_6,want_7,want_8,want_9,want_10,want_11,want_12,want_13,want_14,want_15,want_16,want_17,want_18,want_19,want_20,want_21,Option.some.injEq,Prod.mk.injEq] at hw
  ·exact .inl (.inl rfl)
  ·exact .inl (.inr (.inl rfl))
  ·exact .inl (.inr (.inr rfl))
  ·refine .inr (.inl ⟨rfl,?_⟩)
   simp[fields,Gen.within] at hf
   omega
  ·refine .inr (.inr (.inl ⟨rfl,?_⟩))
   simp[fields,Gen.within] at hf
   omega
  ·obtain⟨k,hk,h⟩:=zmz hw.1
   exact .inr (.inr (.inr (.inl ⟨.inl rfl,k,hk,zaz h,fun e=>absurd e (by decide)⟩)))
  ·obtain⟨k,j,hk,h,h'⟩:=zco hw.1
   exact .inr (.inr (.inr (.inr (.inr (.inr ⟨by unfold zcv; omega,k,j,hk,by first|exact zaz h|exact zct h,by first|exact zaz h'|exact zct h'⟩)))))
  ·obtain⟨k,j,hk,h,h'⟩:=zco hw.1
   exact .inr (.inr (.inr (.inr (.inr (.inr ⟨by unfold zcv; omega,k,j,hk,by first|exact zaz h|exact zct h,by first|exact zaz h'|exact zct h'⟩)))))
  ·obtain⟨k,j,hk,h,h'⟩:=zco hw.1
   exact .inr (.inr (.inr (.inr (.inr (.inr ⟨by unfold zcv; omega,k,j,hk,by first|exact zaz h|exact zct h,by first|exact zaz h'|exact zct h'⟩)))))
  ·obtain⟨k,j,hk,h,h'⟩:=zco hw.1
   exact .inr (.inr (.inr (.inr (.inr (.inr ⟨by unfold zcv; omega,k,j,hk,by first|exact zaz h|exact zct h,by first|exact zaz h'|exact zct h'⟩)))))
  ·obtain⟨k,j,hk,h,h'⟩:=zco hw.1
   exact .inr (.inr (.inr (.inr (.inr (.inr ⟨by unfold zcv; omega,k,j,hk,by first|exact zaz h|exact zct h,by first|exact zaz h'|exact zct h'⟩)))))
  ·obtain⟨k,j,hk,h,h'⟩:=zco hw.1
   exact .inr (.inr (.inr (.inr (.inr (.inr ⟨by unfold zcv; omega,k,j,hk,by first|exact zaz h|exact zct h,by first|exact zaz h'|exact zct h'⟩)))))
  ·obtain⟨k,j,hk,h,h'⟩:=zco hw.1
   exact .inr (.inr (.inr (.inr (.inr (.inr ⟨by unfold zcv; omega,k,j,hk,by first|exact zaz h|exact zct h,by first|exact zaz h'|exact zct h'⟩)))))
  ·obtain⟨k,hk,h⟩:=zmz hw.1
   exact .inr (.inr (.inr (.inl ⟨.inr rfl,k,hk,zbd h,fun _=>h⟩)))
  ·obtain⟨k,j,hk,h,h'⟩:=zco hw.1
   exact .inr (.inr (.inr (.inr (.inl ⟨.inl rfl,k,j,hk,h,zbd h'⟩))))
  ·obtain⟨k,j,hk,h,h'⟩:=zco hw.1
   exact .inr (.inr (.inr (.inr (.inl ⟨.inr rfl,k,j,hk,h,zbd h'⟩))))
  ·obtain⟨k,j,hk,h,h'⟩:=zco hw.1
   exact .inr (.inr (.inr (.inr (.inr (.inr ⟨by unfold zcv; omega,k,j,hk,by first|exact zaz h|exact zct h,by first|exact zaz h'|exact zct h'⟩)))))
  ·obtain⟨k,j,hk,h,h'⟩:=zco hw.1
   exact .inr (.inr (.inr (.inr (.inr (.inr ⟨by unfold zcv; omega,k,j,hk,by first|exact zaz h|exact zct h,by first|exact zaz h'|exact zct h'⟩)))))
  ·obtain⟨k,j,hk,h,h'⟩:=zco hw.1
   exact .inr (.inr (.inr (.inr (.inr (.inr ⟨by unfold zcv; omega,k,j,hk,by first|exact zaz h|exact zct h,by first|exact zaz h'|exact zct h'⟩)))))
  ·obtain⟨k,j,hk,h,h'⟩:=zco hw.1
   exact .inr (.inr (.inr (.inr (.inr (.inr ⟨by unfold zcv; omega,k,j,hk,by first|exact zaz h|exact zct h,by first|exact zaz h'|exact zct h'⟩)))))
  ·obtain⟨k,j,hk,h,h'⟩:=zco hw.1
   exact .inr (.inr (.inr (.inr (.inr (.inr ⟨by unfold zcv; omega,k,j,hk,by first|exact zaz h|exact zct h,by first|exact zaz h'|exact zct h'⟩)))))
end Dn
end
section
open Go.RowKit
namespace Gf
open Co Gen Dn
def pend:List (Nat × T)→Nat
 | []=>0
 |x::r=>(8 * x.2.size - 2)+pend r
theorem zuo (a b:List (Nat × T)):pend (a++b)=pend a+pend b:=by
 induction a with
 |nil=>simp[pend]
 |cons x r ih=>rw[List.cons_append,pend,pend,ih]; omega
structure Fit (k:Nat)(m:Mk):Prop where
 len:m.ins.length+m.ws.length+pend m.jobs≤k
 nx:0≤m.next∧m.next≤k
 rg:0≤m.regs∧m.regs≤k
 pt:m.puts≤k
 kn:∀ v r,m.known v=some r→0≤r∧r≤k
section
variable {k j:Nat}{m:Mk}
theorem Fit.mono (h:Fit k m)(hj:k≤j):Fit j m:=⟨by have:=h.len; omega,by have:=h.nx; omega,by have:=h.rg; omega,by have:=h.pt; omega,fun v r e=>by have:=h.kn v r e; omega⟩
theorem Fit.lay (h:Fit k m)(x:Ix):Fit (k+1) (m.lay x):=⟨by have:=h.len; simp[Mk.lay]; omega,(h.mono (Nat.le_succ k)).nx,(h.mono (Nat.le_succ k)).rg,(h.mono (Nat.le_succ k)).pt,(h.mono (Nat.le_succ k)).kn⟩
theorem Fit.reg (h:Fit k m):Fit (k+1) m.reg:=⟨(h.mono (Nat.le_succ k)).len,by have:=h.nx; simp[Mk.reg]; omega,by have:=h.nx; have:=h.rg; simp only[Mk.reg]; omega,(h.mono (Nat.le_succ k)).pt,(h.mono (Nat.le_succ k)).kn⟩
theorem Fit.here (h:Fit k m)(p:Nat):Fit k (m.here p):=⟨by have:=h.len; simp[Mk.here,toHere]; omega,h.nx,h.rg,h.pt,h.kn⟩
theorem Fit.back {m0:Mk}(h:Fit k m)(h0:Fit j m0)(hj:j≤k):Fit k (m.back m0.known):=⟨h.len,h.nx,h.rg,h.pt,(h0.mono hj).kn⟩
theorem Fit.free (h:Fit k m)(sh:Bool)(r:Int)(hr:0≤r∧r≤k):Fit k (m.free sh r):=by
 unfold Mk.free
 split
 ·exact h
 ·exact⟨h.len,hr,h.rg,h.pt,h.kn⟩
theorem Fit.fresh (h:Fit k m):Fit k m.fresh:=⟨h.len,by simp[Mk.fresh],h.rg,h.pt,fun v r e=>by cases e⟩
theorem Fit.setW (h:Fit k m)(i:Nat)(f:Wt→Wt):Fit k (m.setW i f):=⟨by have:=h.len; simp[Mk.setW]; omega,h.nx,h.rg,h.pt,h.kn⟩
theorem Fit.fin (h:Fit k m):Fit (k+1) m.fin:=h.lay _
theorem Fit.call (h:Fit k m)(t:T):Fit (k+8 * t.size) (m.call t):=by
 have hs:=size_pos t
 have hk:=h.mono (show k≤k+8 * t.size by omega)
 refine⟨?_,hk.nx,hk.rg,hk.pt,hk.kn⟩
 have:=h.len
 simp[Mk.call,zuo,pend]
 omega
open Classical in
theorem Fit.put (h:Fit k m)(v:Val){r:Int}(hr:0≤r∧r≤k):Fit (k+1) (m.put v r):=by
 have hk:=h.mono (Nat.le_succ k)
 refine⟨hk.len,hk.nx,hk.rg,by have:=h.pt; simp[Mk.put]; omega,fun x r' e=>?_⟩
 have e':(if x=v then some r else m.known x)=some r':=e
 split at e'
 ·cases e'; omega
 ·exact hk.kn x r' e'
structure FitO (k u:Nat)(o:Ob):Prop where
 m:Fit k o.2.1
 r:0≤o.1∧o.1≤k
 u:o.2.2.length≤u
theorem FitO.mono {k u j w:Nat}{o:Ob}(h:FitO k u o)(hk:k≤j)(hu:u≤w):FitO j w o:=⟨h.m.mono hk,by have:=h.r; omega,by have:=h.u; omega⟩
theorem zgj (sh:Bool)(v:Val)(h:Fit k m)(u:List Nat):FitO (k+3) (u.length+1) (zak sh v m u):=by
 unfold zak
 split
 ·rename_i r hr
  have:m.known v=some r:=by
   split at hr
   ·exact hr
   ·cases hr
  have hk:=h.kn v r this
  exact⟨h.mono (by omega),by show 0≤r∧r≤_; omega,by simp⟩
 ·have hn:=h.nx
  refine⟨((h.reg.lay _).put v ?_).mono (by omega),by show 0≤m.next∧m.next≤_; omega,?_⟩
  ·show 0≤m.next∧m.next≤_; omega
  ·show(if v.op=2 then u++[m.ins.length] else u).length≤_
   split<;>simp
theorem zce (sh:Bool){out:Int}{u:Nat}{o:Ob}(h:FitO k u o)(ho:0≤out∧out≤k):Fit (k+1) (into sh out o).1∧(into sh out o).2.length≤u:=
 ⟨(h.m.lay _).free sh _ (by omega),h.u⟩
end
theorem kid0 {op n:Int}{s:ByteArray}{a:T}{r:List T}:(T.mk op n s (a::r)).kid 0=a:=rfl
theorem kid1 {op n:Int}{s:ByteArray}{a b:T}{r:List T}:(T.mk op n s (a::b::r)).kid 1=b:=rfl
theorem kid2 {op n:Int}{s:ByteArray}{a b c:T}{r:List T}:(T.mk op n s (a::b::c::r)).kid 2=c:=rfl
theorem zat (sh:Bool)(d:Nat):∀(t:T) (m:Mk) (u:List Nat) (k:Nat),Obs t→Fit k m→FitO (k+8 * t.size) (u.length+8 * t.size) (obs sh d t m u):=by
 induction d with
 |zero=>
  intro t m u k _ h
  exact⟨h.mono (by omega),by show(0:Int)≤0∧(0:Int)≤_; omega,by show u.length≤_; omega⟩
 |succ d ih=>
  intro t m u k ht h
  obtain⟨op,n,s,ks⟩:=t
  have hz:(T.mk op n s ks).size=1+sizes ks:=by rw[T.size]
  have hn:=h.nx
  rcases zdj ht with h1|⟨rfl, -⟩|⟨rfl, -⟩|⟨h1,a,rfl,ha, -⟩|⟨h1,a,b,rfl,ha,hb⟩|⟨rfl,a,b,c,rfl,ha,hb,hc⟩|⟨h1,a,b,rfl,ha,hb⟩
  ·rw[zgt (t:=.mk op n s ks) h1]; exact(zgj sh _ h u).mono (by omega) (by omega)
  ·rw[zio rfl]; exact(zgj sh _ h u).mono (by omega) (by omega)
  ·rw[zjv rfl]; exact(zgj sh _ h u).mono (by omega) (by omega)
  ·have hs:(T.mk op n s [a]).size=1+a.size:=by rw[hz]; simp[sizes]
   rw[zfs (by show 6≤op∧op≤21∧op≠15∧op≠16; omega)]
   unfold zen
   simp only[kid0,T.ks,List.length_singleton,Nat.lt_irrefl,if_false]
   have fa:=ih a m u k ha h
   rw[hs]
   split
   ·exact(zgj sh _ fa.m _).mono (by omega) (by have:=fa.u; omega)
   ·exact⟨((fa.m.lay _).free sh _ (by omega)).mono (by omega),by have:=fa.r; show 0≤(obs sh d a m u).1∧(obs sh d a m u).1≤_; omega,by have:=fa.u; show(obs sh d a m u).2.2.length≤_; omega⟩
  ·have hs:(T.mk op n s [a,b]).size=1+(a.size+b.size):=by rw[hz]; simp[sizes]
   have fa:=zce sh (ih a m.reg u (k+1) (zbd ha) h.reg) (out:=m.next) (by omega)
   rcases h1 with rfl|rfl
   ·rw[zjw rfl]
    unfold chosen zdi
    simp only[kid0,kid1]
    generalize into sh m.next (obs sh d a m.reg u)=A at *
    have f1:=fa.1.lay (ix 19 0 m.next 0)
    have fb:=zce sh (ih b _ A.2 _ hb f1) (out:=m.next) (by omega)
    generalize into sh m.next (obs sh d b (A.1.lay (ix 19 0 m.next 0)) A.2)=C at *
    refine⟨(((fb.1.back f1 (by omega)).here _).free sh _ (by omega)).mono (by rw[hs]; omega),by show 0≤m.next∧m.next≤_; omega,?_⟩
    show C.2.length≤_
    have:=fb.2
    have:=fa.2
    rw[hs]
    omega
   ·rw[zly rfl]
    unfold chosen zec
    simp only[kid0,kid1]
    generalize into sh m.next (obs sh d a m.reg u)=A at *
    have f1:=((fa.1.lay (ix 19 0 m.next 0)).lay (ix 20 0 0 0)).here A.1.ins.length
    have fb:=zce sh (ih b _ A.2 _ hb f1) (out:=m.next) (by omega)
    generalize into sh m.next (obs sh d b (((A.1.lay (ix 19 0 m.next 0)).lay (ix 20 0 0 0)).here A.1.ins.length) A.2)=C at *
    refine⟨(((fb.1.back f1 (by omega)).here _).free sh _ (by omega)).mono (by rw[hs]; omega),by show 0≤m.next∧m.next≤_; omega,?_⟩
    show C.2.length≤_
    have:=fb.2
    have:=fa.2
    rw[hs]
    omega
  ·have hs:(T.mk 22 n s [a,b,c]).size=1+(a.size+(b.size+c.size)):=by rw[hz]; simp[sizes]
   have fa:=zce sh (ih a m.reg u (k+1) (zbd ha) h.reg) (out:=m.next) (by omega)
   rw[zlz rfl]
   unfold chosen zed
   simp only[kid0,kid1,kid2]
   generalize into sh m.next (obs sh d a m.reg u)=A at *
   have f1:=fa.1.lay (ix 19 0 m.next 0)
   have fb:=zce sh (ih b _ A.2 _ hb f1) (out:=m.next) (by omega)
   generalize into sh m.next (obs sh d b (A.1.lay (ix 19 0 m.next 0)) A.2)=C at *
   have f2:=((fb.1.back f1 (by omega)).lay (ix 20 0 0 0)).here A.1.ins.length
   have fc:=zce sh (ih c _ C.2 _ hc f2) (out:=m.next) (by omega)
   generalize into sh m.next (obs sh d c (((C.1.back (A.1.lay (ix 19 0 m.next 0)).known).lay (ix 20 0 0 0)).here A.1.ins.length) C.2)=F at *
   refine⟨(((fc.1.back f2 (by omega)).here _).free sh _ (by omega)).mono (by rw[hs]; omega),by show 0≤m.next∧m.next≤_; omega,?_⟩
   show F.2.length≤_
   have:=fc.2
   have:=fb.2
   have:=fa.2
   rw[hs]
   omega
  ·have hs:(T.mk op n s [a,b]).size=1+(a.size+b.size):=by rw[hz]; simp[sizes]
   unfold zcv at h1
   rw[zfs (by show 6≤op∧op≤21∧op≠15∧op≠16; omega)]
   unfold zen
   simp only[kid0,kid1,T.ks,List.length_cons,List.length_nil,show 1<0+1+1 by decide,if_true]
   have fa:=ih a m u k ha h
   have fb:=ih b (obs sh d a m u).2.1 (obs sh d a m u).2.2 _ hb fa.m
   have ua:=fa.u
   have ub:=fb.u
   rw[hs]
   split
   ·exact(zgj sh _ fb.m _).mono (by omega) (by omega)
   ·exact⟨((fb.m.lay _).free sh _ (by omega)).mono (by omega),by have:=fa.r; show 0≤(obs sh d a m u).1∧(obs sh d a m u).1≤_; omega,by show(obs sh d b (obs sh d a m u).2.1 (obs sh d a m u).2.2).2.2.length≤_; omega⟩
end Gf
end
section
open Go.RowKit
namespace Gf
open Co Gen Dn
section
variable {sh:Bool}{d:Nat}{t:T}{m:Mk}
theorem zhc (h:zax t=true):con sh (d+1) t m=m.call t:=by rw[con]; exact if_pos h
theorem zgz (h:zax t=false)(ho:t.op=23):con sh (d+1) t m=m.free sh m.next:=by
 rw[con]
 refine(if_neg (by rw[h]; decide)).trans ?_
 rw[show(if t.op=24 then m.lay ⟨27,0,0,0,0,t.s,0⟩ else _)=m from(if_neg (by omega)).trans ((if_neg (by omega)).trans ((if_neg (by omega)).trans ((if_neg (by omega)).trans (if_neg (by omega)))))]
theorem zik (h:zax t=false)(ho:t.op=24):con sh (d+1) t m=(m.lay ⟨27,0,0,0,0,t.s,0⟩).free sh m.next:=by
 rw[con]
 refine(if_neg (by rw[h]; decide)).trans ?_
 rw[show(if t.op=24 then m.lay ⟨27,0,0,0,0,t.s,0⟩ else _)=m.lay ⟨27,0,0,0,0,t.s,0⟩ from if_pos ho]
theorem zhb (h:zax t=false)(ho:t.op=25):con sh (d+1) t m=(con sh d (t.kid 0) (m.lay (ix 24 0 0 0))).free sh m.next:=by
 rw[con]
 refine(if_neg (by rw[h]; decide)).trans ?_
 rw[show(if t.op=24 then m.lay ⟨27,0,0,0,0,t.s,0⟩ else _)=con sh d (t.kid 0) (m.lay (ix 24 0 0 0)) from(if_neg (by omega)).trans (if_pos ho)]
theorem zhd (h:zax t=false)(ho:t.op=27):con sh (d+1) t m=(con sh d (t.kid 1) ((con sh d (t.kid 0) (m.reg.lay (ix 25 m.next 0 0))).lay (ix 26 0 m.next 0))).free sh m.next:=by
 rw[con]
 refine(if_neg (by rw[h]; decide)).trans ?_
 rw[show(if t.op=24 then m.lay ⟨27,0,0,0,0,t.s,0⟩ else _)=con sh d (t.kid 1) ((con sh d (t.kid 0) (m.reg.lay (ix 25 m.next 0 0))).lay (ix 26 0 m.next 0)) from(if_neg (by omega)).trans ((if_neg (by omega)).trans (if_pos ho))]
theorem zgf (h:zax t=false)(ho:t.op=26):con sh (d+1) t m=(con sh d (t.kid 1) ((obs sh d (t.kid 0) m []).2.1.lay (ix 23 0 (obs sh d (t.kid 0) m []).1 0))).free sh m.next:=by
 rw[con]
 refine(if_neg (by rw[h]; decide)).trans ?_
 rw[show(if t.op=24 then m.lay ⟨27,0,0,0,0,t.s,0⟩ else _)=con sh d (t.kid 1) ((obs sh d (t.kid 0) m []).2.1.lay (ix 23 0 (obs sh d (t.kid 0) m []).1 0)) from(if_neg (by omega)).trans ((if_neg (by omega)).trans ((if_neg (by omega)).trans (if_pos ho)))]
theorem zkd (h:zax t=false)(ho:t.op=28):con sh (d+1) t m=(either (con sh d) (obs sh d (t.kid 0) m []).1 t (obs sh d (t.kid 0) m []).2.1).free sh m.next:=by
 rw[con]
 refine(if_neg (by rw[h]; decide)).trans ?_
 rw[show(if t.op=24 then m.lay ⟨27,0,0,0,0,t.s,0⟩ else _)=either (con sh d) (obs sh d (t.kid 0) m []).1 t (obs sh d (t.kid 0) m []).2.1 from(if_neg (by omega)).trans ((if_neg (by omega)).trans ((if_neg (by omega)).trans ((if_neg (by omega)).trans (if_pos ho))))]
end
theorem zgr {t:T}(h:zax t=false):t.op≠29∧t.op≠30∧t.op≠31∧(t.op=26∨t.op=28→zbs (t.kid 0)=false):=by
 unfold zax at h
 split at h
 ·cases h
 ·rename_i h1
  simp only[not_or] at h1
  refine⟨h1.1,h1.2.1,h1.2.2,fun e=>?_⟩
  rw[if_pos e] at h
  exact h
theorem zid {con:T→Mk→Mk}{t:T}{k:Nat}{m:Mk}(r:Int)(h:Fit k m)(h1:∀ k m,Fit k m→Fit (k+8 * (t.kid 1).size) (con (t.kid 1) m))(h2:∀ k m,Fit k m→Fit (k+8 * (t.kid 2).size) (con (t.kid 2) m)):
  Fit (k+2+8 * (t.kid 1).size+8 * (t.kid 2).size) (either con r t m):=by
 unfold either
 have f1:=h.lay (ix 19 0 r 0)
 have f2:=(h1 _ _ f1).back f1 (by omega)
 have f3:=(f2.lay (ix 20 0 0 0)).here m.ins.length
 have f4:=(h2 _ _ f3).back f3 (by omega)
 exact(f4.here _).mono (by omega)
theorem zav (sh:Bool)(d:Nat):∀(t:T) (m:Mk) (k:Nat),t.letter=99→Fit k m→Fit (k+8 * t.size) (con sh d t m):=by
 induction d with
 |zero=>intro t m k _ h; exact h.mono (by omega)
 |succ d ih=>
  intro t m k hx h
  have hn:=h.nx
  cases hw:zax t with
  |true=>rw[zhc hw]; exact h.call t
  |false=>
   obtain⟨op,n,s,ks⟩:=t
   have hz:(T.mk op n s ks).size=1+sizes ks:=by rw[T.size]
   obtain⟨w1,w2,w3,w4⟩:=zgr hw
   rcases zbm hx with(⟨rfl,rfl⟩|⟨rfl,rfl⟩)|⟨h1,a,rfl,ha⟩|⟨rfl,o,a,rfl,ho,ha⟩|⟨h1,a,b,rfl,ha,hb⟩|⟨rfl,o,a,b,rfl,ho,ha,hb⟩|⟨rfl,o,a,rfl,ho,ha⟩
   ·rw[zgz hw rfl]; exact(h.free sh _ hn).mono (by omega)
   ·rw[zik hw rfl]; exact((h.lay _).free sh _ (by omega)).mono (by omega)
   ·rcases h1 with rfl|rfl
    ·rw[zhb hw rfl,kid0]
     have hs:(T.mk 25 n s [a]).size=1+a.size:=by rw[hz]; simp[sizes]
     exact((ih a _ _ ha (h.lay _)).free sh _ (by omega)).mono (by omega)
    ·exact absurd rfl w1
   ·rw[zgf hw rfl,kid0,kid1]
    have hs:(T.mk 26 n s [o,a]).size=1+(o.size+a.size):=by rw[hz]; simp[sizes]
    have fo:=zat sh d o m [] k (zaz ho) h
    exact((ih a _ _ ha (fo.m.lay _)).free sh _ (by omega)).mono (by omega)
   ·rcases h1 with rfl|rfl
    ·rw[zhd hw rfl,kid0,kid1]
     have hs:(T.mk 27 n s [a,b]).size=1+(a.size+b.size):=by rw[hz]; simp[sizes]
     exact((ih b _ _ hb ((ih a _ _ ha (h.reg.lay _)).lay _)).free sh _ (by omega)).mono (by omega)
    ·exact absurd rfl w3
   ·rw[zkd hw rfl,kid0]
    have hs:(T.mk 28 n s [o,a,b]).size=1+(o.size+(a.size+b.size)):=by rw[hz]; simp[sizes]
    have fo:=zat sh d o m [] k (zbd ho) h
    have fe:=zid (con:=con sh d) (t:=.mk 28 n s [o,a,b]) (obs sh d o m []).1 fo.m (fun k m h=>ih a m k ha h) (fun k m h=>ih b m k hb h)
    rw[kid1,kid2] at fe
    exact(fe.free sh _ (by omega)).mono (by omega)
   ·exact absurd rfl w2
theorem zoe (sh:Bool)(d:Nat):∀(t:T) (m:Mk),m.puts≤(con sh d t m).puts∧m.ins.length≤(con sh d t m).ins.length:=by
 induction d with
 |zero=>intro t m; exact⟨Nat.le_refl _,Nat.le_refl _⟩
 |succ d ih=>
  intro t m
  have he:∀(r:Int) (m:Mk),m.puts≤(either (con sh d) r t m).puts∧m.ins.length≤(either (con sh d) r t m).ins.length:=by
   intro r m
   unfold either
   simp only[zaf,zai]
   have h1:=ih (t.kid 1) (m.lay (ix 19 0 r 0))
   rw[zae] at h1
   generalize con sh d (t.kid 1) (m.lay (ix 19 0 r 0))=C at *
   have h2:=ih (t.kid 2) (((C.back (m.lay (ix 19 0 r 0)).known).lay (ix 20 0 0 0)).here m.ins.length)
   rw[zaf,zae,zai] at h2
   exact⟨Nat.le_trans h1.1 h2.1,by omega⟩
  rw[con]
  split
  ·exact⟨Nat.le_refl _,by show m.ins.length≤(m.ins++[_]).length; simp⟩
  ·rw[zho,zbc]
   split
   ·rw[zae]; exact⟨Nat.le_refl _,by omega⟩
   split
   ·have h1:=ih (t.kid 0) (m.lay (ix 24 0 0 0))
    rw[zae] at h1
    exact⟨h1.1,by omega⟩
   split
   ·have h1:=ih (t.kid 0) (m.reg.lay (ix 25 m.next 0 0))
    rw[zae,zfh] at h1
    generalize con sh d (t.kid 0) (m.reg.lay (ix 25 m.next 0 0))=C at *
    have h2:=ih (t.kid 1) (C.lay (ix 26 0 m.next 0))
    rw[zae] at h2
    exact⟨Nat.le_trans h1.1 h2.1,by omega⟩
   split
   ·simp only
    have h1:=zfw sh d (t.kid 0) m []
    have h1':=zap sh d (t.kid 0) m []
    have h2:=ih (t.kid 1) ((obs sh d (t.kid 0) m []).2.1.lay (ix 23 0 (obs sh d (t.kid 0) m []).1 0))
    rw[zae] at h2
    exact⟨Nat.le_trans h1 h2.1,by omega⟩
   split
   ·simp only
    have h1:=zfw sh d (t.kid 0) m []
    have h1':=zap sh d (t.kid 0) m []
    have h2:=he (obs sh d (t.kid 0) m []).1 (obs sh d (t.kid 0) m []).2.1
    exact⟨Nat.le_trans h1 h2.1,by omega⟩
   ·exact⟨Nat.le_refl _,Nat.le_refl _⟩
end Gf
end
section
open Go.RowKit
namespace Gf
open Co Gen Dn
theorem znm {k:Nat}:∀(l:List Nat) (m:Mk),Fit k m→Fit k (hereAll m l)
 | [],_,h=>h
 |p::r,m,h=>znm r (m.here p) (h.here p)
theorem zjj {k:Nat}{m:Mk}(j:Nat)(l:List Nat)(h:Fit k m):Fit (k+3) (again j m l):=by
 unfold again
 exact(((znm l _ (h.setW j _).fin).lay _).fin).mono (by omega)
theorem qco {k:Nat}{m:Mk}(sh:Bool)(j:Nat)(t:T)(h:Fit k m)(h1:(t.kid 0).letter=99)(h2:(t.kid 1).letter=99):Fit (k+6+8 * (t.kid 0).size+8 * (t.kid 1).size) (pick sh j t m):=by
 unfold pick
 have fa:=((h.lay (ix 21 0 0 t.n)).lay (ix 28 0 0 j)).fin
 have fb:=(((zav sh 200 (t.kid 0) _ _ h1 (fa.lay (ix 21 0 0 t.n))).fin.here m.ins.length).here (((m.lay (ix 21 0 0 t.n)).lay (ix 28 0 0 j)).fin).ins.length)
 have fc:=(zav sh 200 (t.kid 1) _ _ h2 fb.fresh).fin
 exact(fc.setW j _).mono (by omega)
def waitIn (j:Nat)(m:Mk):Mk:=(m.setW j fun w=>{ w with entry:=m.ins.length }).fresh
section
variable {sh:Bool}{j:Nat}{t:T}{m:Mk}
theorem zeu (h:t.op=29):wait sh j t m=again j (con sh 200 (t.kid 0) (((waitIn j m).setW j fun w=>{ w with day:=t.n }).lay (ix 22 0 0 t.n))) [(waitIn j m).ins.length]:=by
 unfold wait
 exact if_pos h
theorem zdn (h:t.op=30):wait sh j t m=again j ((con sh 200 (t.kid 1) ((obs sh 200 (t.kid 0) (((waitIn j m).setW j fun w=>{ w with day:=t.n+1 }).lay (ix 21 0 0 t.n)) []).2.1.lay (ix 19 0 (obs sh 200 (t.kid 0) (((waitIn j m).setW j fun w=>{ w with day:=t.n+1 }).lay (ix 21 0 0 t.n)) []).1 0))).here (waitIn j m).ins.length)
  ((obs sh 200 (t.kid 0) (((waitIn j m).setW j fun w=>{ w with day:=t.n+1 }).lay (ix 21 0 0 t.n)) []).2.2++[(obs sh 200 (t.kid 0) (((waitIn j m).setW j fun w=>{ w with day:=t.n+1 }).lay (ix 21 0 0 t.n)) []).2.1.ins.length]):=by
 unfold wait
 exact(if_neg (by omega)).trans (if_pos h)
theorem zdf (h:t.op=26):wait sh j t m=again j (con sh 200 (t.kid 1) ((obs sh 200 (t.kid 0) (waitIn j m) []).2.1.lay (ix 23 0 (obs sh 200 (t.kid 0) (waitIn j m) []).1 0))) (obs sh 200 (t.kid 0) (waitIn j m) []).2.2:=by
 unfold wait
 exact(if_neg (by omega)).trans ((if_neg (by omega)).trans (if_pos h))
theorem zet (h:t.op=28):wait sh j t m=again j (either (con sh 200) (obs sh 200 (t.kid 0) (waitIn j m) []).1 t (obs sh 200 (t.kid 0) (waitIn j m) []).2.1) (obs sh 200 (t.kid 0) (waitIn j m) []).2.2:=by
 unfold wait
 exact(if_neg (by omega)).trans ((if_neg (by omega)).trans ((if_neg (by omega)).trans (if_pos h)))
theorem zdo (h:t.op=31):wait sh j t m=pick sh j t (waitIn j m):=by
 unfold wait
 exact(if_neg (by omega)).trans ((if_neg (by omega)).trans ((if_neg (by omega)).trans ((if_neg (by omega)).trans (if_pos h))))
end
theorem zbb {op n:Int}{s:ByteArray}{ks:List T}(h:op=23∨op=24∨op=25∨op=27):zax (.mk op n s ks)=false:=by
 unfold zax
 exact(if_neg (by show ¬(op=29∨op=30∨op=31); omega)).trans (if_neg (by show ¬(op=26∨op=28); omega))
theorem qbj {k:Nat}{m:Mk}(sh:Bool)(j:Nat)(t:T)(h:Fit k m)(hx:t.letter=99)(hw:zax t=true):Fit (k+(8 * t.size - 2)) (wait sh j t m):=by
 obtain⟨op,n,s,ks⟩:=t
 have hz:(T.mk op n s ks).size=1+sizes ks:=by rw[T.size]
 have h0:Fit k (waitIn j m):=(h.setW j _).fresh
 rcases zbm hx with(⟨rfl,rfl⟩|⟨rfl,rfl⟩)|⟨h1,a,rfl,ha⟩|⟨rfl,o,a,rfl,ho,ha⟩|⟨h1,a,b,rfl,ha,hb⟩|⟨rfl,o,a,b,rfl,ho,ha,hb⟩|⟨rfl,o,a,rfl,ho,ha⟩
 ·rw[zbb (by omega)] at hw; cases hw
 ·rw[zbb (by omega)] at hw; cases hw
 ·rcases h1 with rfl|rfl
  ·rw[zbb (by omega)] at hw; cases hw
  ·have hs:(T.mk 29 n s [a]).size=1+a.size:=by rw[hz]; simp[sizes]
   rw[zeu rfl,kid0]
   exact(zjj j _ (zav sh 200 a _ _ ha ((h0.setW j _).lay _))).mono (by omega)
 ·have hs:(T.mk 26 n s [o,a]).size=1+(o.size+a.size):=by rw[hz]; simp[sizes]
  rw[zdf rfl,kid0,kid1]
  have fo:=zat sh 200 o _ [] _ (zaz ho) h0
  exact(zjj j _ (zav sh 200 a _ _ ha (fo.m.lay _))).mono (by omega)
 ·rcases h1 with rfl|rfl
  ·rw[zbb (by omega)] at hw; cases hw
  ·have hs:(T.mk 31 n s [a,b]).size=1+(a.size+b.size):=by rw[hz]; simp[sizes]
   rw[zdo rfl]
   exact(qco sh j (T.mk 31 n s [a,b]) h0 ha hb).mono (by rw[kid0,kid1]; omega)
 ·have hs:(T.mk 28 n s [o,a,b]).size=1+(o.size+(a.size+b.size)):=by rw[hz]; simp[sizes]
  rw[zet rfl,kid0]
  have fo:=zat sh 200 o _ [] _ (zbd ho) h0
  have fe:=zid (con:=con sh 200) (t:=.mk 28 n s [o,a,b]) (obs sh 200 o (waitIn j m) []).1 fo.m (fun k m h=>zav sh 200 a m k ha h) (fun k m h=>zav sh 200 b m k hb h)
  rw[kid1,kid2] at fe
  exact(zjj j _ fe).mono (by omega)
 ·have hs:(T.mk 30 n s [o,a]).size=1+(o.size+a.size):=by rw[hz]; simp[sizes]
  rw[zdn rfl,kid0,kid1]
  have fo:=zat sh 200 o _ [] _ (zbd ho) ((h0.setW j fun w=>{ w with day:=n+1 }).lay (ix 21 0 0 n))
  exact(zjj j _ ((zav sh 200 a _ _ ha (fo.m.lay _)).here _)).mono (by omega)
end Gf
end
section
open Go.RowKit
namespace Gf
open Co Gen Dn
theorem qey (sh:Bool)(out:Int)(o:Ob):(into sh out o).1.ws.length=o.2.1.ws.length:=by
 unfold into Mk.free
 cases sh<;>rfl
theorem zje (sh:Bool)(v:Val)(m:Mk)(u:List Nat):m.ws.length≤(zak sh v m u).2.1.ws.length:=by
 unfold zak
 split
 ·exact Nat.le_refl _
 ·exact Nat.le_refl _
theorem zjz (m:Mk)(sh:Bool)(r:Int):(m.free sh r).ws.length=m.ws.length:=by unfold Mk.free; cases sh<;>rfl
theorem zlx (sh:Bool)(d:Nat):∀(t:T) (m:Mk) (u:List Nat),m.ws.length≤(obs sh d t m u).2.1.ws.length:=by
 induction d with
 |zero=>intro t m u; exact Nat.le_refl _
 |succ d ih=>
  intro t m u
  rw[obs]
  split
  ·exact zje _ _ _ _
  split
  ·exact zje _ _ _ _
  split
  ·exact zje _ _ _ _
  have hi:∀(t:T) (m:Mk) (u:List Nat) (out:Int),m.ws.length≤(into sh out (obs sh d t m u)).1.ws.length:=fun t m u out=>by rw[qey]; exact ih t m u
  split
  ·unfold chosen zdi
   simp only
   rw[zjz]
   have h1:=hi (t.kid 0) m.reg u m.next
   generalize into sh m.next (obs sh d (t.kid 0) m.reg u)=A at *
   exact Nat.le_trans h1 (hi (t.kid 1) (A.1.lay (ix 19 0 m.next 0)) A.2 m.next)
  split
  ·unfold chosen zec
   simp only
   rw[zjz]
   have h1:=hi (t.kid 0) m.reg u m.next
   generalize into sh m.next (obs sh d (t.kid 0) m.reg u)=A at *
   exact Nat.le_trans h1 (hi (t.kid 1) (((A.1.lay (ix 19 0 m.next 0)).lay (ix 20 0 0 0)).here A.1.ins.length) A.2 m.next)
  split
  ·unfold chosen zed
   simp only
   rw[zjz]
   have h1:=hi (t.kid 0) m.reg u m.next
   generalize into sh m.next (obs sh d (t.kid 0) m.reg u)=A at *
   have h2:=hi (t.kid 1) (A.1.lay (ix 19 0 m.next 0)) A.2 m.next
   generalize into sh m.next (obs sh d (t.kid 1) (A.1.lay (ix 19 0 m.next 0)) A.2)=C at *
   exact Nat.le_trans (Nat.le_trans h1 h2) (hi (t.kid 2) (((C.1.back (A.1.lay (ix 19 0 m.next 0)).known).lay (ix 20 0 0 0)).here A.1.ins.length) C.2 m.next)
  ·unfold zen
   simp only
   have h1:=ih (t.kid 0) m u
   have h2:∀ b:Ob,b=(if 1<t.ks.length then obs sh d (t.kid 1) (obs sh d (t.kid 0) m u).2.1 (obs sh d (t.kid 0) m u).2.2 else(0,(obs sh d (t.kid 0) m u).2.1,(obs sh d (t.kid 0) m u).2.2))→m.ws.length≤b.2.1.ws.length:=by
    rintro b rfl
    split
    ·exact Nat.le_trans h1 (ih _ _ _)
    ·exact h1
   split
   ·exact Nat.le_trans (h2 _ rfl) (zje _ _ _ _)
   ·rw[zjz]; exact h2 _ rfl
theorem zhq (sh:Bool)(d:Nat):∀(t:T) (m:Mk),m.ws.length≤(con sh d t m).ws.length∧m.ins.length≤(con sh d t m).ins.length:=by
 induction d with
 |zero=>intro t m; exact⟨Nat.le_refl _,Nat.le_refl _⟩
 |succ d ih=>
  intro t m
  have he:∀(r:Int) (m:Mk),m.ws.length≤(either (con sh d) r t m).ws.length∧m.ins.length≤(either (con sh d) r t m).ins.length:=by
   intro r m
   unfold either
   simp only[zaf,zai]
   have h1:=ih (t.kid 1) (m.lay (ix 19 0 r 0))
   rw[zae] at h1
   generalize con sh d (t.kid 1) (m.lay (ix 19 0 r 0))=C at *
   have h2:=ih (t.kid 2) (((C.back (m.lay (ix 19 0 r 0)).known).lay (ix 20 0 0 0)).here m.ins.length)
   rw[zaf,zae,zai] at h2
   exact⟨Nat.le_trans h1.1 h2.1,by omega⟩
  rw[con]
  split
  ·exact⟨by show m.ws.length≤(m.ws++[_]).length; simp,by show m.ins.length≤(m.ins++[_]).length; simp⟩
  ·rw[zjz,zbc]
   split
   ·rw[zae]; exact⟨Nat.le_refl _,by omega⟩
   split
   ·have h1:=ih (t.kid 0) (m.lay (ix 24 0 0 0))
    rw[zae] at h1
    exact⟨h1.1,by omega⟩
   split
   ·have h1:=ih (t.kid 0) (m.reg.lay (ix 25 m.next 0 0))
    rw[zae,zfh] at h1
    generalize con sh d (t.kid 0) (m.reg.lay (ix 25 m.next 0 0))=C at *
    have h2:=ih (t.kid 1) (C.lay (ix 26 0 m.next 0))
    rw[zae] at h2
    exact⟨Nat.le_trans h1.1 h2.1,by omega⟩
   split
   ·simp only
    have h1:=zlx sh d (t.kid 0) m []
    have h1':=zap sh d (t.kid 0) m []
    have h2:=ih (t.kid 1) ((obs sh d (t.kid 0) m []).2.1.lay (ix 23 0 (obs sh d (t.kid 0) m []).1 0))
    rw[zae] at h2
    exact⟨Nat.le_trans h1 h2.1,by omega⟩
   split
   ·simp only
    have h1:=zlx sh d (t.kid 0) m []
    have h1':=zap sh d (t.kid 0) m []
    have h2:=he (obs sh d (t.kid 0) m []).1 (obs sh d (t.kid 0) m []).2.1
    exact⟨Nat.le_trans h1 h2.1,by omega⟩
   ·exact⟨Nat.le_refl _,Nat.le_refl _⟩
end Gf
end
section
open Go.RowKit
namespace Gf
open Co Gen Dn
def jw (m:Mk):List (Nat × T) × Nat:=(m.jobs,m.ws.length)
theorem zau (m:Mk)(x:Ix):jw (m.lay x)=jw m:=rfl
theorem zov (m:Mk):jw m.reg=jw m:=rfl
theorem zcc (m:Mk)(p:Nat):jw (m.here p)=jw m:=rfl
theorem zea (m:Mk)(k:Val→Option Int):jw (m.back k)=jw m:=rfl
theorem zby (m:Mk)(sh:Bool)(r:Int):jw (m.free sh r)=jw m:=by unfold Mk.free; cases sh<;>rfl
theorem zhn (m:Mk):jw m.fin=jw m:=rfl
theorem zny (m:Mk):jw m.fresh=jw m:=rfl
theorem qfu (m:Mk)(v:Val)(r:Int):jw (m.put v r)=jw m:=rfl
theorem zfn (m:Mk)(j:Nat)(f:Wt→Wt):jw (m.setW j f)=jw m:=by simp[jw,Mk.setW]
theorem zgw (sh:Bool)(out:Int)(o:Ob):jw (into sh out o).1=jw o.2.1:=by unfold into; rw[zby,zau]
theorem zhm (sh:Bool)(v:Val)(m:Mk)(u:List Nat):jw (zak sh v m u).2.1=jw m:=by
 unfold zak
 split
 ·rfl
 ·exact(qfu _ _ _).trans rfl
theorem qgi {ob:T→Mk→List Nat→Ob}(h:∀(t:T) (m:Mk) (u:List Nat),jw (ob t m u).2.1=jw m)(sh:Bool)(t:T)(m:Mk)(u:List Nat):jw (zen ob sh t m u).2.1=jw m:=by
 have h1:=h (t.kid 0) m u
 obtain⟨o,ho⟩:∃ o,ob (t.kid 0) m u=o:=⟨_,rfl⟩
 rw[ho] at h1
 by_cases hl:1<t.ks.length
 ·have h2:=h (t.kid 1) o.2.1 o.2.2
  obtain⟨p,hp⟩:∃ p,ob (t.kid 1) o.2.1 o.2.2=p:=⟨_,rfl⟩
  rw[hp] at h2
  rw[zdp hl rfl ho rfl hp]
  cases sh
  ·exact(zby _ _ _).trans ((zau _ _).trans (h2.trans h1))
  ·exact(zhm _ _ _ _).trans (h2.trans h1)
 ·rw[zdq hl rfl ho]
  cases sh
  ·exact(zby _ _ _).trans ((zau _ _).trans h1)
  ·exact(zhm _ _ _ _).trans h1
theorem zcx (sh:Bool)(d:Nat):∀(t:T) (m:Mk) (u:List Nat),jw (obs sh d t m u).2.1=jw m:=by
 induction d with
 |zero=>intro t m u; rfl
 |succ d ih=>
  intro t m u
  rw[obs]
  split
  ·exact zhm _ _ _ _
  split
  ·exact zhm _ _ _ _
  split
  ·exact zhm _ _ _ _
  split
  ·unfold chosen zdi
   simp only
   rw[zby,zcc,zea,zgw,ih,zau,zgw,ih,zov]
  split
  ·unfold chosen zec
   simp only
   rw[zby,zcc,zea,zgw,ih,zcc,zau,zau,zgw,ih,zov]
  split
  ·unfold chosen zed
   simp only
   rw[zby,zcc,zea,zgw,ih,zcc,zau,zea,zgw,ih,zau,zgw,ih,zov]
  ·exact qgi ih sh t m u
def qgm (n:Nat)(x:Nat × T):Prop:=x.1<n∧x.2.letter=99∧zax x.2=true∧x.2.depth≤200
def JobsOk (s:List (Nat × T) × Nat):Prop:=∀ x∈s.1,qgm s.2 x
theorem JobsOk.call {m:Mk}{t:T}(h:JobsOk (jw m))(hx:t.letter=99)(hw:zax t=true)(hd:t.depth≤200):JobsOk (jw (m.call t)):=by
 intro x hxm
 have hl:(jw (m.call t)).2=m.ws.length+1:=by simp[jw,Mk.call]
 have hm:x∈m.jobs++[(m.ws.length,t)]:=hxm
 rw[hl]
 rcases List.mem_append.1 hm with h1|h1
 ·obtain⟨h2,h3⟩:=h x h1
  exact⟨Nat.lt_succ_of_lt h2,h3⟩
 ·rw[List.mem_singleton] at h1
  subst h1
  exact⟨Nat.lt_succ_self _,hx,hw,hd⟩
theorem zfb (sh:Bool)(d:Nat):∀(t:T) (m:Mk),t.letter=99→t.depth≤200→JobsOk (jw m)→JobsOk (jw (con sh d t m)):=by
 induction d with
 |zero=>intro t m _ _ h; exact h
 |succ d ih=>
  intro t m hx hd h
  cases hw:zax t with
  |true=>rw[zhc hw]; exact h.call hx hw hd
  |false=>
   obtain⟨op,n,s,ks⟩:=t
   have hk:∀ k∈ks,k.depth≤200:=fun k hk=>by
    have:=zcy hk
    rw[T.depth] at hd
    omega
   obtain⟨w1,w2,w3,w4⟩:=zgr hw
   rcases zbm hx with(⟨rfl,rfl⟩|⟨rfl,rfl⟩)|⟨h1,a,rfl,ha⟩|⟨rfl,o,a,rfl,ho,ha⟩|⟨h1,a,b,rfl,ha,hb⟩|⟨rfl,o,a,b,rfl,ho,ha,hb⟩|⟨rfl,o,a,rfl,ho,ha⟩
   ·rw[zgz hw rfl,zby]; exact h
   ·rw[zik hw rfl,zby]; exact h
   ·rcases h1 with rfl|rfl
    ·rw[zhb hw rfl,kid0,zby]
     exact ih a _ ha (hk a (by simp)) h
    ·exact absurd rfl w1
   ·rw[zgf hw rfl,kid0,kid1,zby]
    exact ih a _ ha (hk a (by simp)) (by rw[zau,zcx]; exact h)
   ·rcases h1 with rfl|rfl
    ·rw[zhd hw rfl,kid0,kid1,zby]
     exact ih b _ hb (hk b (by simp)) (ih a _ ha (hk a (by simp)) h)
    ·exact absurd rfl w3
   ·rw[zkd hw rfl,kid0,zby]
    unfold either
    simp only[kid1,kid2,zcc,zea]
    refine ih b _ hb (hk b (by simp)) ?_
    rw[zcc,zau,zea]
    refine ih a _ ha (hk a (by simp)) ?_
    rw[zau,zcx]
    exact h
   ·exact absurd rfl w2
theorem zow:∀(l:List Nat) (m:Mk),jw (hereAll m l)=jw m
 | [],_=>rfl
 |p::r,m=>(zow r (m.here p)).trans (zcc m p)
theorem zdk (j:Nat)(l:List Nat)(m:Mk):jw (again j m l)=jw m:=by
 unfold again
 rw[zhn,zau,zow,zhn,zfn]
theorem zdr (j:Nat)(m:Mk):jw (waitIn j m)=jw m:=by unfold waitIn; rw[zny,zfn]
end Gf
end
section
open Go.RowKit
namespace Gf
open Co Gen Dn
theorem zfk (sh:Bool)(j:Nat)(t:T)(m:Mk):∃ A C B D:Mk,A=((m.lay (ix 21 0 0 t.n)).lay (ix 28 0 0 j)).fin∧C=con sh 200 (t.kid 0) (A.lay (ix 21 0 0 t.n))∧B=(C.fin.here m.ins.length).here A.ins.length∧D=con sh 200 (t.kid 1) B.fresh ∧
  pick sh j t m=D.fin.setW j fun _=>⟨m.ins.length,zck (t.n+1),t.s,A.ins.length,B.ins.length⟩:=⟨_,_,_,_,rfl,rfl,rfl,rfl,rfl⟩
theorem zba (con:T→Mk→Mk)(r:Int)(t:T)(m:Mk):∃ A B C D:Mk,A=m.lay (ix 19 0 r 0)∧B=con (t.kid 1) A∧C=((B.back A.known).lay (ix 20 0 0 0)).here m.ins.length∧D=con (t.kid 2) C ∧
  either con r t m=(D.back C.known).here (B.back A.known).ins.length:=⟨_,_,_,_,rfl,rfl,rfl,rfl,rfl⟩
theorem zzd (sh:Bool)(j:Nat)(t:T)(m:Mk)(hx:t.letter=99)(hw:zax t=true)(hd:t.depth≤200)(h:JobsOk (jw m)):JobsOk (jw (wait sh j t m)):=by
 obtain⟨op,n,s,ks⟩:=t
 have hk:∀ k∈ks,k.depth≤200:=fun k hk=>by
  have:=zcy hk
  rw[T.depth] at hd
  omega
 rcases zbm hx with(⟨rfl,rfl⟩|⟨rfl,rfl⟩)|⟨h1,a,rfl,ha⟩|⟨rfl,o,a,rfl,ho,ha⟩|⟨h1,a,b,rfl,ha,hb⟩|⟨rfl,o,a,b,rfl,ho,ha,hb⟩|⟨rfl,o,a,rfl,ho,ha⟩
 ·rw[zbb (by omega)] at hw; cases hw
 ·rw[zbb (by omega)] at hw; cases hw
 ·rcases h1 with rfl|rfl
  ·rw[zbb (by omega)] at hw; cases hw
  ·rw[zeu rfl,kid0,zdk]
   exact zfb sh 200 a _ ha (hk a (by simp)) (by rw[zau,zfn,zdr]; exact h)
 ·rw[zdf rfl,kid0,kid1,zdk]
  exact zfb sh 200 a _ ha (hk a (by simp)) (by rw[zau,zcx,zdr]; exact h)
 ·rcases h1 with rfl|rfl
  ·rw[zbb (by omega)] at hw; cases hw
  ·rw[zdo rfl]
   obtain⟨A,C,B,D,hA,hC,hB,hD,e⟩:=zfk sh j (T.mk 31 n s [a,b]) (waitIn j m)
   rw[kid0] at hC
   rw[kid1] at hD
   rw[e,zfn,zhn,hD]
   refine zfb sh 200 b _ hb (hk b (by simp)) ?_
   rw[zny,hB,zcc,zcc,zhn,hC]
   refine zfb sh 200 a _ ha (hk a (by simp)) ?_
   rw[zau,hA,zhn,zau,zau,zdr]
   exact h
 ·rw[zet rfl,kid0,zdk]
  have hjo:=zcx sh 200 o (waitIn j m) []
  rw[zdr] at hjo
  generalize obs sh 200 o (waitIn j m) []=O at *
  obtain⟨A,B,C,D,hA,hB,hC,hD,e⟩:=zba (con sh 200) O.1 (T.mk 28 n s [o,a,b]) O.2.1
  rw[kid1] at hB
  rw[kid2] at hD
  rw[e,zcc,zea,hD]
  refine zfb sh 200 b _ hb (hk b (by simp)) ?_
  rw[hC,zcc,zau,zea,hB]
  refine zfb sh 200 a _ ha (hk a (by simp)) ?_
  rw[hA,zau,hjo]
  exact h
 ·rw[zdn rfl,kid0,kid1,zdk,zcc]
  exact zfb sh 200 a _ ha (hk a (by simp)) (by rw[zau,zcx,zau,zfn,zdr]; exact h)
end Gf
end
section
open Go.RowKit
namespace Gf
open Co Gen Dn
def tot:List (Nat × T)→Nat
 | []=>0
 |x::r=>x.2.size+tot r
theorem zol (a b:List (Nat × T)):tot (a++b)=tot a+tot b:=by
 induction a with
 |nil=>simp[tot]
 |cons x r ih=>rw[List.cons_append,tot,tot,ih]; omega
theorem zze (m:Mk)(t:T):tot (jw (m.call t)).1=tot (jw m).1+t.size:=by
 show tot (m.jobs++[(m.ws.length,t)])=_
 rw[zol]
 rfl
theorem zge (sh:Bool)(d:Nat):∀(t:T) (m:Mk),t.letter=99→tot (jw (con sh d t m)).1≤tot (jw m).1+t.size:=by
 induction d with
 |zero=>intro t m _; exact Nat.le_add_right _ _
 |succ d ih=>
  intro t m hx
  cases hw:zax t with
  |true=>rw[zhc hw,zze]; exact Nat.le_refl _
  |false=>
   obtain⟨op,n,s,ks⟩:=t
   have hz:(T.mk op n s ks).size=1+sizes ks:=by rw[T.size]
   obtain⟨w1,w2,w3,w4⟩:=zgr hw
   rcases zbm hx with(⟨rfl,rfl⟩|⟨rfl,rfl⟩)|⟨h1,a,rfl,ha⟩|⟨rfl,o,a,rfl,ho,ha⟩|⟨h1,a,b,rfl,ha,hb⟩|⟨rfl,o,a,b,rfl,ho,ha,hb⟩|⟨rfl,o,a,rfl,ho,ha⟩
   ·rw[zgz hw rfl,zby]; omega
   ·rw[zik hw rfl,zby,zau]; omega
   ·rcases h1 with rfl|rfl
    ·rw[zhb hw rfl,kid0,zby]
     have hs:(T.mk 25 n s [a]).size=1+a.size:=by rw[hz]; simp[sizes]
     have:=ih a (m.lay (ix 24 0 0 0)) ha
     rw[zau] at this
     omega
    ·exact absurd rfl w1
   ·rw[zgf hw rfl,kid0,kid1,zby]
    have hs:(T.mk 26 n s [o,a]).size=1+(o.size+a.size):=by rw[hz]; simp[sizes]
    have:=ih a ((obs sh d o m []).2.1.lay (ix 23 0 (obs sh d o m []).1 0)) ha
    rw[zau,zcx] at this
    omega
   ·rcases h1 with rfl|rfl
    ·rw[zhd hw rfl,kid0,kid1,zby]
     have hs:(T.mk 27 n s [a,b]).size=1+(a.size+b.size):=by rw[hz]; simp[sizes]
     have h1:=ih a (m.reg.lay (ix 25 m.next 0 0)) ha
     rw[zau,zov] at h1
     generalize con sh d a (m.reg.lay (ix 25 m.next 0 0))=C at *
     have h2:=ih b (C.lay (ix 26 0 m.next 0)) hb
     rw[zau] at h2
     omega
    ·exact absurd rfl w3
   ·rw[zkd hw rfl,kid0,zby]
    have hs:(T.mk 28 n s [o,a,b]).size=1+(o.size+(a.size+b.size)):=by rw[hz]; simp[sizes]
    have hjo:=zcx sh d o m []
    generalize obs sh d o m []=O at *
    unfold either
    simp only[kid1,kid2,zcc,zea]
    have h1:=ih a (O.2.1.lay (ix 19 0 O.1 0)) ha
    rw[zau,hjo] at h1
    generalize con sh d a (O.2.1.lay (ix 19 0 O.1 0))=C at *
    have h2:=ih b (((C.back (O.2.1.lay (ix 19 0 O.1 0)).known).lay (ix 20 0 0 0)).here O.2.1.ins.length) hb
    rw[zcc,zau,zea] at h2
    omega
   ·exact absurd rfl w2
theorem zsf (sh:Bool)(j:Nat)(t:T)(m:Mk)(hx:t.letter=99)(hw:zax t=true):tot (jw (wait sh j t m)).1+1≤tot (jw m).1+t.size:=by
 obtain⟨op,n,s,ks⟩:=t
 have hz:(T.mk op n s ks).size=1+sizes ks:=by rw[T.size]
 rcases zbm hx with(⟨rfl,rfl⟩|⟨rfl,rfl⟩)|⟨h1,a,rfl,ha⟩|⟨rfl,o,a,rfl,ho,ha⟩|⟨h1,a,b,rfl,ha,hb⟩|⟨rfl,o,a,b,rfl,ho,ha,hb⟩|⟨rfl,o,a,rfl,ho,ha⟩
 ·rw[zbb (by omega)] at hw; cases hw
 ·rw[zbb (by omega)] at hw; cases hw
 ·rcases h1 with rfl|rfl
  ·rw[zbb (by omega)] at hw; cases hw
  ·have hs:(T.mk 29 n s [a]).size=1+a.size:=by rw[hz]; simp[sizes]
   rw[zeu rfl,kid0,zdk]
   have:=zge sh 200 a (((waitIn j m).setW j fun w=>{ w with day:=(T.mk 29 n s [a]).n }).lay (ix 22 0 0 (T.mk 29 n s [a]).n)) ha
   rw[zau,zfn,zdr] at this
   omega
 ·have hs:(T.mk 26 n s [o,a]).size=1+(o.size+a.size):=by rw[hz]; simp[sizes]
  rw[zdf rfl,kid0,kid1,zdk]
  have:=zge sh 200 a ((obs sh 200 o (waitIn j m) []).2.1.lay (ix 23 0 (obs sh 200 o (waitIn j m) []).1 0)) ha
  rw[zau,zcx,zdr] at this
  omega
 ·rcases h1 with rfl|rfl
  ·rw[zbb (by omega)] at hw; cases hw
  ·have hs:(T.mk 31 n s [a,b]).size=1+(a.size+b.size):=by rw[hz]; simp[sizes]
   rw[zdo rfl]
   obtain⟨A,C,B,D,hA,hC,hB,hD,e⟩:=zfk sh j (T.mk 31 n s [a,b]) (waitIn j m)
   rw[kid0] at hC
   rw[kid1] at hD
   have h1:=zge sh 200 a (A.lay (ix 21 0 0 (T.mk 31 n s [a,b]).n)) ha
   have h2:=zge sh 200 b B.fresh hb
   rw[←hC,zau,hA,zhn,zau,zau,zdr] at h1
   rw[←hD,zny,hB,zcc,zcc,zhn] at h2
   rw[e,zfn,zhn]
   omega
 ·have hs:(T.mk 28 n s [o,a,b]).size=1+(o.size+(a.size+b.size)):=by rw[hz]; simp[sizes]
  rw[zet rfl,kid0,zdk]
  have hjo:=zcx sh 200 o (waitIn j m) []
  rw[zdr] at hjo
  generalize obs sh 200 o (waitIn j m) []=O at *
  obtain⟨A,B,C,D,hA,hB,hC,hD,e⟩:=zba (con sh 200) O.1 (T.mk 28 n s [o,a,b]) O.2.1
  rw[kid1] at hB
  rw[kid2] at hD
  have h1:=zge sh 200 a A ha
  have h2:=zge sh 200 b C hb
  rw[←hB,hA,zau,hjo] at h1
  rw[←hD,hC,zcc,zau,zea] at h2
  rw[e,zcc,zea]
  omega
 ·have hs:(T.mk 30 n s [o,a]).size=1+(o.size+a.size):=by rw[hz]; simp[sizes]
  rw[zdn rfl,kid0,kid1,zdk,zcc]
  have hjo:=zcx sh 200 o (((waitIn j m).setW j fun w=>{ w with day:=(T.mk 30 n s [o,a]).n+1 }).lay (ix 21 0 0 (T.mk 30 n s [o,a]).n)) []
  rw[zau,zfn,zdr] at hjo
  generalize obs sh 200 o _ []=O at *
  have:=zge sh 200 a (O.2.1.lay (ix 19 0 O.1 0)) ha
  rw[zau,hjo] at this
  omega
end Gf
end
section
open Go.RowKit
namespace Gf
open Co Gen Dn
structure Gr (s:Int)(m m':Mk):Prop where
 ln:m.ins.length≤m'.ins.length
 sl:0≤(m'.ins.length:Int) - m.ins.length+s
 nx:m'.next≤m.next+((m'.ins.length:Int) - m.ins.length)+s
 rg:m'.regs≤max m.regs (m.next+((m'.ins.length:Int) - m.ins.length)+s)
 pt:m'.puts+m.ins.length≤m.puts+m'.ins.length
section
variable {s s':Int}{m m' m'':Mk}
theorem Gr.refl (m:Mk):Gr 0 m m:=⟨Nat.le_refl _,by omega,by omega,by omega,Nat.le_refl _⟩
theorem Gr.trans (h:Gr s m m')(k:Gr s' m' m''):Gr (s+s') m m'':=by
 obtain⟨h1,h2,h3,h4,h5⟩:=h
 obtain⟨k1,k2,k3,k4,k5⟩:=k
 exact⟨by omega,by omega,by omega,by omega,by omega⟩
theorem Gr.weak (h:Gr s m m')(hs:s≤s'):Gr s' m m':=by
 obtain⟨h1,h2,h3,h4,h5⟩:=h
 exact⟨by omega,by omega,by omega,by omega,by omega⟩
theorem Gr.lay (h:Gr s m m')(x:Ix):Gr (s - 1) m (m'.lay x):=by
 obtain⟨h1,h2,h3,h4,h5⟩:=h
 have hl:=zae m' x
 have e1:(m'.lay x).next=m'.next:=rfl
 have e2:(m'.lay x).regs=m'.regs:=rfl
 have e3:(m'.lay x).puts=m'.puts:=rfl
 refine⟨by omega,by omega,by rw[e1]; omega,by rw[e2]; omega,by rw[e3]; omega⟩
theorem Gr.reg (h:Gr s m m'):Gr (s+1) m m'.reg:=by
 obtain⟨h1,h2,h3,h4,h5⟩:=h
 have hl:=zfh m'
 have e1:m'.reg.next=m'.next+1:=rfl
 have e2:m'.reg.regs=max m'.regs (m'.next+1):=rfl
 have e3:m'.reg.puts=m'.puts:=rfl
 refine⟨by omega,by omega,by rw[e1]; omega,by rw[e2]; omega,by rw[e3]; omega⟩
theorem Gr.here (h:Gr s m m')(p:Nat):Gr s m (m'.here p):=by
 obtain⟨h1,h2,h3,h4,h5⟩:=h
 have hl:=zaf m' p
 exact⟨by omega,by omega,by rw[hl]; exact h3,by rw[hl]; exact h4,by rw[hl]; exact h5⟩
theorem Gr.back (h:Gr s m m')(k:Val→Option Int):Gr s m (m'.back k):=⟨h.ln,h.sl,h.nx,h.rg,h.pt⟩
theorem Gr.setW (h:Gr s m m')(j:Nat)(f:Wt→Wt):Gr s m (m'.setW j f):=⟨h.ln,h.sl,h.nx,h.rg,h.pt⟩
theorem Gr.fin (h:Gr s m m'):Gr (s - 1) m m'.fin:=h.lay _
theorem Gr.free (h:Gr s m m')(sh:Bool){r:Int}(hr:r≤m.next+((m'.ins.length:Int) - m.ins.length)+s):Gr s m (m'.free sh r):=by
 unfold Mk.free
 split
 ·exact h
 ·exact⟨h.ln,h.sl,hr,h.rg,h.pt⟩
theorem Gr.fresh (h:Gr s m m')(hr:0≤m.next+((m'.ins.length:Int) - m.ins.length)+s):Gr s m m'.fresh:=⟨h.ln,h.sl,hr,h.rg,h.pt⟩
theorem Gr.call (h:Gr s m m')(t:T):Gr (s - 1) m (m'.call t):=by
 have:=h.lay (ix 29 0 0 m'.ws.length)
 exact⟨this.ln,this.sl,this.nx,this.rg,this.pt⟩
theorem zjf (sh:Bool)(v:Val)(u:List Nat)(h:Gr s m m'):Gr s m (zak sh v m' u).2.1:=by
 unfold zak
 split
 ·exact h
 ·obtain⟨h1,h2,h3,h4,h5⟩:=(h.reg).lay (v.ix m'.next)
  have hl:=zae m'.reg (v.ix m'.next)
  rw[zfh] at hl
  have e1:((m'.reg.lay (v.ix m'.next)).put v m'.next).next=(m'.reg.lay (v.ix m'.next)).next:=rfl
  have e2:((m'.reg.lay (v.ix m'.next)).put v m'.next).regs=(m'.reg.lay (v.ix m'.next)).regs:=rfl
  have e3:((m'.reg.lay (v.ix m'.next)).put v m'.next).puts=m'.puts+1:=rfl
  have e4:((m'.reg.lay (v.ix m'.next)).put v m'.next).ins.length=(m'.reg.lay (v.ix m'.next)).ins.length:=rfl
  have k1:=h.ln
  have k5:=h.pt
  refine⟨?_,?_,?_,?_,?_⟩
  ·show _≤((m'.reg.lay (v.ix m'.next)).put v m'.next).ins.length; omega
  ·show 0≤(((m'.reg.lay (v.ix m'.next)).put v m'.next).ins.length:Int) - _+_; omega
  ·show((m'.reg.lay (v.ix m'.next)).put v m'.next).next≤_+((((m'.reg.lay (v.ix m'.next)).put v m'.next).ins.length:Int) - _)+_; rw[e1,e4]; omega
  ·show((m'.reg.lay (v.ix m'.next)).put v m'.next).regs≤max _ (_+((((m'.reg.lay (v.ix m'.next)).put v m'.next).ins.length:Int) - _)+_); rw[e2,e4]; omega
  ·show((m'.reg.lay (v.ix m'.next)).put v m'.next).puts+_≤_+((m'.reg.lay (v.ix m'.next)).put v m'.next).ins.length; rw[e3,e4]; omega
end
theorem qez {s:Int}{m:Mk}{o:Ob}(sh:Bool)(h:Gr s m o.2.1)(out:Int)(hr:out+1≤m.next+((o.2.1.ins.length:Int) - m.ins.length)+s):Gr (s - 1) m (into sh out o).1:=by
 unfold into
 refine(h.lay _).free sh ?_
 rw[zae]
 omega
theorem zyw (sh:Bool)(d:Nat):∀(t:T) (m:Mk) (u:List Nat),Gr 0 m (obs sh d t m u).2.1:=by
 induction d with
 |zero=>intro t m u; exact Gr.refl m
 |succ d ih=>
  intro t m u
  have hi:∀ {s:Int} {m0 m':Mk} (t:T) (u:List Nat) (out:Int),Gr s m0 m'→out+1≤m0.next+((m'.ins.length:Int) - m0.ins.length)+s→Gr (s - 1) m0 (into sh out (obs sh d t m' u)).1:=by
   intro s m0 m' t u out h hr
   have h1:=h.trans (ih t m' u)
   rw[Int.add_zero] at h1
   refine qez sh h1 out ?_
   have:=(ih t m' u).ln
   omega
  rw[obs]
  split
  ·exact zjf _ _ _ (Gr.refl m)
  split
  ·exact zjf _ _ _ (Gr.refl m)
  split
  ·exact zjf _ _ _ (Gr.refl m)
  have h1:=hi (t.kid 0) u m.next (Gr.refl m).reg (by rw[zfh]; omega)
  have hl:=zca sh m.next (obs sh d (t.kid 0) m.reg u)
  have hl2:=zap sh d (t.kid 0) m.reg u
  rw[zfh] at hl2
  split
  ·unfold chosen zdi
   simp only
   generalize into sh m.next (obs sh d (t.kid 0) m.reg u)=A at *
   have h2:=hi (t.kid 1) A.2 m.next (h1.lay (ix 19 0 m.next 0)) (by rw[zae]; omega)
   have hl3:=zca sh m.next (obs sh d (t.kid 1) (A.1.lay (ix 19 0 m.next 0)) A.2)
   have hl4:=zap sh d (t.kid 1) (A.1.lay (ix 19 0 m.next 0)) A.2
   rw[zae] at hl4
   exact(((h2.back _).here _).weak (by omega)).free sh (by rw[zaf,zai]; omega)
  split
  ·unfold chosen zec
   simp only
   generalize into sh m.next (obs sh d (t.kid 0) m.reg u)=A at *
   have h2:=hi (t.kid 1) A.2 m.next (((h1.lay (ix 19 0 m.next 0)).lay (ix 20 0 0 0)).here A.1.ins.length) (by rw[zaf,zae,zae]; omega)
   have hl3:=zca sh m.next (obs sh d (t.kid 1) (((A.1.lay (ix 19 0 m.next 0)).lay (ix 20 0 0 0)).here A.1.ins.length) A.2)
   have hl4:=zap sh d (t.kid 1) (((A.1.lay (ix 19 0 m.next 0)).lay (ix 20 0 0 0)).here A.1.ins.length) A.2
   rw[zaf,zae,zae] at hl4
   exact(((h2.back _).here _).weak (by omega)).free sh (by rw[zaf,zai]; omega)
  split
  ·unfold chosen zed
   simp only
   generalize into sh m.next (obs sh d (t.kid 0) m.reg u)=A at *
   have h2:=hi (t.kid 1) A.2 m.next (h1.lay (ix 19 0 m.next 0)) (by rw[zae]; omega)
   have hl3:=zca sh m.next (obs sh d (t.kid 1) (A.1.lay (ix 19 0 m.next 0)) A.2)
   have hl4:=zap sh d (t.kid 1) (A.1.lay (ix 19 0 m.next 0)) A.2
   rw[zae] at hl4
   generalize into sh m.next (obs sh d (t.kid 1) (A.1.lay (ix 19 0 m.next 0)) A.2)=C at *
   have h3:=hi (t.kid 2) C.2 m.next (((h2.back (A.1.lay (ix 19 0 m.next 0)).known).lay (ix 20 0 0 0)).here A.1.ins.length) (by rw[zaf,zae,zai]; omega)
   have hl5:=zca sh m.next (obs sh d (t.kid 2) (((C.1.back (A.1.lay (ix 19 0 m.next 0)).known).lay (ix 20 0 0 0)).here A.1.ins.length) C.2)
   have hl6:=zap sh d (t.kid 2) (((C.1.back (A.1.lay (ix 19 0 m.next 0)).known).lay (ix 20 0 0 0)).here A.1.ins.length) C.2
   rw[zaf,zae,zai] at hl6
   exact(((h3.back _).here _).weak (by omega)).free sh (by rw[zaf,zai]; omega)
  ·unfold zen
   simp only
   have g1:=ih (t.kid 0) m u
   generalize obs sh d (t.kid 0) m u=A at *
   have h2:∀ b:Ob,b=(if 1<t.ks.length then obs sh d (t.kid 1) A.2.1 A.2.2 else(0,A.2.1,A.2.2))→Gr 0 m b.2.1:=by
    rintro b rfl
    split
    ·have:=g1.trans (ih (t.kid 1) A.2.1 A.2.2)
     rwa [Int.add_zero] at this
    ·exact g1
   split
   ·exact zjf _ _ _ (h2 _ rfl)
   ·have g2:=h2 _ rfl
    generalize (if 1<t.ks.length then obs sh d (t.kid 1) A.2.1 A.2.2 else(0,A.2.1,A.2.2))=B at *
    have:=g2.ln
    exact((g2.lay _).weak (by omega)).free sh (by rw[zae]; omega)
theorem qak (sh:Bool)(d:Nat):∀(t:T) (m:Mk),Gr 0 m (con sh d t m):=by
 induction d with
 |zero=>intro t m; exact Gr.refl m
 |succ d ih=>
  intro t m
  have hi:∀ {s:Int} {m0 m':Mk} (t:T),Gr s m0 m'→Gr s m0 (con sh d t m'):=by
   intro s m0 m' t h
   have h1:=h.trans (ih t m')
   rwa [Int.add_zero] at h1
  have ho:∀ {s:Int} {m0 m':Mk} (t:T),Gr s m0 m'→Gr s m0 (obs sh d t m' []).2.1:=by
   intro s m0 m' t h
   have h1:=h.trans (zyw sh d t m' [])
   rwa [Int.add_zero] at h1
  have hf:∀ {m':Mk},Gr 0 m m'→Gr 0 m (m'.free sh m.next):=fun h=>h.free sh (by have:=h.ln; omega)
  rw[con]
  split
  ·exact((Gr.refl m).call t).weak (by omega)
  ·apply hf
   split
   ·exact((Gr.refl m).lay _).weak (by omega)
   split
   ·exact(hi _ ((Gr.refl m).lay _)).weak (by omega)
   split
   ·exact(hi _ ((hi _ ((Gr.refl m).reg.lay _)).lay _)).weak (by omega)
   split
   ·simp only
    exact(hi _ ((ho _ (Gr.refl m)).lay _)).weak (by omega)
   split
   ·simp only
    unfold either
    simp only
    exact((((hi _ ((((hi _ ((ho _ (Gr.refl m)).lay _)).back _).lay _).here _)).back _).here _)).weak (by omega)
   ·exact Gr.refl m
theorem zoy {s:Int}{m:Mk}:∀(l:List Nat) (m':Mk),Gr s m m'→Gr s m (hereAll m' l)
 | [],_,h=>h
 |p::r,m',h=>zoy r (m'.here p) (h.here p)
theorem ziz {s:Int}{m m':Mk}(j:Nat)(l:List Nat)(h:Gr s m m'):Gr (s - 3) m (again j m' l):=by
 unfold again
 exact((((zoy l _ (h.setW j _).fin).lay _).fin)).weak (by omega)
theorem zjb {sh:Bool}{j:Nat}{t:T}{m:Mk}(h1:t.op≠29)(h2:t.op≠30)(h3:t.op≠26)(h4:t.op≠28)(h5:t.op≠31):wait sh j t m=again j (waitIn j m) []:=by
 unfold wait
 exact(if_neg h1).trans ((if_neg h2).trans ((if_neg h3).trans ((if_neg h4).trans (if_neg h5))))
theorem qej (sh:Bool)(j:Nat)(t:T)(m:Mk):Gr 0 (waitIn j m) (wait sh j t m):=by
 have hc:∀ {s:Int} {m0 m':Mk} (t:T),Gr s m0 m'→Gr s m0 (con sh 200 t m'):=by
  intro s m0 m' t h
  have h1:=h.trans (qak sh 200 t m')
  rwa [Int.add_zero] at h1
 have ho:∀ {s:Int} {m0 m':Mk} (t:T),Gr s m0 m'→Gr s m0 (obs sh 200 t m' []).2.1:=by
  intro s m0 m' t h
  have h1:=h.trans (zyw sh 200 t m' [])
  rwa [Int.add_zero] at h1
 have h0:=Gr.refl (waitIn j m)
 have hn:(waitIn j m).next=0:=rfl
 by_cases h29:t.op=29
 ·rw[zeu h29]
  exact(ziz j _ (hc _ ((h0.setW j _).lay _))).weak (by omega)
 by_cases h30:t.op=30
 ·rw[zdn h30]
  have g:=ho (t.kid 0) ((h0.setW j fun w=>{ w with day:=t.n+1 }).lay (ix 21 0 0 t.n))
  generalize obs sh 200 (t.kid 0) (((waitIn j m).setW j fun w=>{ w with day:=t.n+1 }).lay (ix 21 0 0 t.n)) []=O at *
  exact(ziz j _ ((hc (t.kid 1) (g.lay (ix 19 0 O.1 0))).here _)).weak (by omega)
 by_cases h26:t.op=26
 ·rw[zdf h26]
  have g:=ho (t.kid 0) h0
  generalize obs sh 200 (t.kid 0) (waitIn j m) []=O at *
  exact(ziz j _ (hc (t.kid 1) (g.lay (ix 23 0 O.1 0)))).weak (by omega)
 by_cases h28:t.op=28
 ·rw[zet h28]
  have g:=ho (t.kid 0) h0
  generalize obs sh 200 (t.kid 0) (waitIn j m) []=O at *
  obtain⟨A,B,C,D,hA,hB,hC,hD,e⟩:=zba (con sh 200) O.1 t O.2.1
  have gA:Gr (0 - 1) (waitIn j m) A:=by rw[hA]; exact g.lay _
  have gB:Gr (0 - 1) (waitIn j m) B:=by rw[hB]; exact hc _ gA
  have gC:Gr (0 - 1 - 1) (waitIn j m) C:=by rw[hC]; exact((gB.back _).lay _).here _
  have gD:Gr (0 - 1 - 1) (waitIn j m) D:=by rw[hD]; exact hc _ gC
  rw[e]
  exact(ziz j _ ((gD.back _).here _)).weak (by omega)
 by_cases h31:t.op=31
 ·rw[zdo h31]
  obtain⟨A,C,B,D,hA,hC,hB,hD,e⟩:=zfk sh j t (waitIn j m)
  have gA:Gr (-3) (waitIn j m) A:=by rw[hA]; exact((((h0.lay _).lay _).fin)).weak (by omega)
  have gC:Gr (-4) (waitIn j m) C:=by rw[hC]; exact(hc _ (gA.lay _)).weak (by omega)
  have gB:Gr (-5) (waitIn j m) B:=by rw[hB]; exact((gC.fin.here _).here _).weak (by omega)
  have gD:Gr (-5) (waitIn j m) D:=by rw[hD]; exact hc _ (gB.fresh (by rw[hn]; have:=gB.sl; omega))
  rw[e]
  exact((gD.fin).setW j _).weak (by omega)
 ·rw[zjb h29 h30 h26 h28 h31]
  exact(ziz j _ h0).weak (by omega)
end Gf
end
section
open Go.RowKit
namespace Gf
open Co Gen Dn
def reTo (x:Ix)(z:Int):Ix:=⟨x.op,x.a,x.b,x.c,x.n,x.s,z⟩
structure Ext (m m':Mk):Prop where
 ins:∀(p:Nat) x,m.ins[p]? = some x→∃ z,m'.ins[p]? = some (reTo x z)
 ws:m.ws <+: m'.ws
section
variable {m m' m'':Mk}
theorem Ext.refl (m:Mk):Ext m m:=⟨fun p x h=>⟨x.to,h⟩,List.prefix_refl _⟩
theorem Ext.trans (h:Ext m m')(k:Ext m' m''):Ext m m'':=⟨fun p x hx=>by
 obtain⟨t1,h1⟩:=h.ins p x hx
 obtain⟨t2,h2⟩:=k.ins p _ h1
 exact⟨t2,h2⟩,h.ws.trans k.ws⟩
theorem Ext.same (h:Ext m m')(h1:m''.ins=m'.ins)(h2:m''.ws=m'.ws):Ext m m'':=⟨by rw[h1]; exact h.ins,by rw[h2]; exact h.ws⟩
theorem Ext.lay (h:Ext m m')(x:Ix):Ext m (m'.lay x):=⟨fun p y hy=>by
 obtain⟨t,h1⟩:=h.ins p y hy
 exact⟨t,by show(m'.ins++[x])[p]? = _; rw[List.getElem?_append_left (List.getElem?_eq_some_iff.1 h1).1]; exact h1⟩,h.ws⟩
theorem zii (m:Mk)(p q:Nat):(m.here p).ins[q]? = if p=q then(m.ins[q]?).map fun x=>reTo x m.ins.length else m.ins[q]?:=by
 show(m.ins.modify p _)[q]? = _
 rw[List.getElem?_modify]
 split
 ·rfl
 ·simp
theorem Ext.here (h:Ext m m')(p:Nat):Ext m (m'.here p):=⟨fun q x hx=>by
 obtain⟨t,h1⟩:=h.ins q x hx
 rw[zii]
 split
 ·exact⟨m'.ins.length,by rw[h1]; rfl⟩
 ·exact⟨t,h1⟩,h.ws⟩
theorem Ext.reg (h:Ext m m'):Ext m m'.reg:=h.same rfl rfl
theorem Ext.back (h:Ext m m')(k:Val→Option Int):Ext m (m'.back k):=h.same rfl rfl
theorem Ext.free (h:Ext m m')(sh:Bool)(r:Int):Ext m (m'.free sh r):=h.same (by unfold Mk.free; cases sh<;>rfl) (by unfold Mk.free; cases sh<;>rfl)
theorem Ext.put (h:Ext m m')(v:Val)(r:Int):Ext m (m'.put v r):=h.same rfl rfl
theorem Ext.fin (h:Ext m m'):Ext m m'.fin:=h.lay _
theorem Ext.fresh (h:Ext m m'):Ext m m'.fresh:=h.same rfl rfl
theorem Ext.call (h:Ext m m')(t:T):Ext m (m'.call t):=⟨(h.lay (ix 29 0 0 m'.ws.length)).ins,h.ws.trans (List.prefix_append _ _)⟩
theorem zgk (sh:Bool)(v:Val)(u:List Nat)(h:Ext m m'):Ext m (zak sh v m' u).2.1:=by
 unfold zak
 split
 ·exact h
 ·exact(h.reg.lay _).put v _
theorem zth {o:Ob}(sh:Bool)(out:Int)(h:Ext m o.2.1):Ext m (into sh out o).1:=(h.lay _).free sh _
end
theorem zfm (sh:Bool)(d:Nat):∀(t:T) (m:Mk) (u:List Nat),Ext m (obs sh d t m u).2.1:=by
 induction d with
 |zero=>intro t m u; exact Ext.refl m
 |succ d ih=>
  intro t m u
  have hi:∀ {m0 m':Mk} (t:T) (u:List Nat) (out:Int),Ext m0 m'→Ext m0 (into sh out (obs sh d t m' u)).1:=fun t u out h=>zth sh out (h.trans (ih t _ u))
  rw[obs]
  split
  ·exact zgk _ _ _ (Ext.refl m)
  split
  ·exact zgk _ _ _ (Ext.refl m)
  split
  ·exact zgk _ _ _ (Ext.refl m)
  have h1:=hi (t.kid 0) u m.next (Ext.refl m).reg
  split
  ·unfold chosen zdi
   simp only
   exact(((hi _ _ _ (h1.lay _)).back _).here _).free sh _
  split
  ·unfold chosen zec
   simp only
   exact(((hi _ _ _ (((h1.lay _).lay _).here _)).back _).here _).free sh _
  split
  ·unfold chosen zed
   simp only
   exact(((hi _ _ _ ((((hi _ _ _ (h1.lay _)).back _).lay _).here _)).back _).here _).free sh _
  ·unfold zen
   simp only
   have g1:=ih (t.kid 0) m u
   generalize obs sh d (t.kid 0) m u=A at *
   have h2:∀ b:Ob,b=(if 1<t.ks.length then obs sh d (t.kid 1) A.2.1 A.2.2 else(0,A.2.1,A.2.2))→Ext m b.2.1:=by
    rintro b rfl
    split
    ·exact g1.trans (ih (t.kid 1) A.2.1 A.2.2)
    ·exact g1
   split
   ·exact zgk _ _ _ (h2 _ rfl)
   ·exact((h2 _ rfl).lay _).free sh _
theorem zgg (sh:Bool)(d:Nat):∀(t:T) (m:Mk),Ext m (con sh d t m):=by
 induction d with
 |zero=>intro t m; exact Ext.refl m
 |succ d ih=>
  intro t m
  have hi:∀ {m0 m':Mk} (t:T),Ext m0 m'→Ext m0 (con sh d t m'):=fun t h=>h.trans (ih t _)
  have ho:∀ {m0 m':Mk} (t:T),Ext m0 m'→Ext m0 (obs sh d t m' []).2.1:=fun t h=>h.trans (zfm sh d t _ [])
  rw[con]
  split
  ·exact(Ext.refl m).call t
  ·refine Ext.free ?_ sh _
   split
   ·exact(Ext.refl m).lay _
   split
   ·exact hi _ ((Ext.refl m).lay _)
   split
   ·exact hi _ ((hi _ ((Ext.refl m).reg.lay _)).lay _)
   split
   ·simp only
    exact hi _ ((ho _ (Ext.refl m)).lay _)
   split
   ·simp only
    unfold either
    simp only
    exact((hi _ ((((hi _ ((ho _ (Ext.refl m)).lay _)).back _).lay _).here _)).back _).here _
   ·exact Ext.refl m
end Gf
end
section
open Go.RowKit
namespace Gf
open Co Gen Dn
theorem qei {sh:Bool}{j:Nat}{t:T}{m m':Mk}(e:waitIn j m=waitIn j m'):wait sh j t m=wait sh j t m':=by
 by_cases h29:t.op=29
 ·rw[zeu h29,zeu h29,e]
 by_cases h30:t.op=30
 ·rw[zdn h30,zdn h30,e]
 by_cases h26:t.op=26
 ·rw[zdf h26,zdf h26,e]
 by_cases h28:t.op=28
 ·rw[zet h28,zet h28,e]
 by_cases h31:t.op=31
 ·rw[zdo h31,zdo h31,e]
 ·rw[zjb h29 h30 h26 h28 h31,zjb h29 h30 h26 h28 h31,e]
structure St (k:Nat)(m:Mk):Prop where
 jobs:JobsOk (jw m)
 len:m.ins.length+m.ws.length+pend m.jobs≤k
 rg:0≤m.regs∧m.regs≤m.ins.length
 pt:m.puts≤m.ins.length
 nx:0≤m.next∧m.next≤m.ins.length
def zao (m:Mk)(r:List (Nat × T)):Mk:={ m with jobs:=r }
section
variable {k:Nat}{m:Mk}{j:Nat}{t:T}{r:List (Nat × T)}
theorem St.job (h:St k m)(e:m.jobs=(j,t)::r):j<m.ws.length∧t.letter=99∧zax t=true∧t.depth≤200:=h.jobs (j,t) (by show _∈m.jobs; rw[e]; exact List.mem_cons_self ..)
theorem St.fit (h:St k m)(e:m.jobs=(j,t)::r):Fit (m.ins.length+m.ws.length+pend r) (zao m r).fresh∧m.ins.length+m.ws.length+pend r+(8 * t.size - 2)≤k:=by
 have h1:=h.len
 rw[e,pend] at h1
 have h2:=h.rg
 have h3:=h.pt
 refine⟨⟨Nat.le_refl _,?_,?_,?_,fun v x hx=>by cases hx⟩,by simp only at h1; omega⟩
 ·show(0:Int)≤0∧(0:Int)≤_; omega
 ·show 0≤m.regs∧m.regs≤_; omega
 ·show m.puts≤_; omega
theorem zoj (sh:Bool):wait sh j t (zao m r)=wait sh j t (zao m r).fresh:=qei rfl
theorem St.next (h:St k m)(e:m.jobs=(j,t)::r)(sh:Bool):St k (wait sh j t (zao m r)):=by
 obtain⟨hj,hx,hw,hd⟩:=h.job e
 obtain⟨hf,hk⟩:=h.fit e
 have hf2:=qbj sh j t hf hx hw
 rw[←zoj] at hf2
 have hg:=qej sh j t (zao m r)
 have hl:(waitIn j (zao m r)).ins.length=m.ins.length:=rfl
 have hn:(waitIn j (zao m r)).next=0:=rfl
 have hr:(waitIn j (zao m r)).regs=m.regs:=rfl
 have hp:(waitIn j (zao m r)).puts=m.puts:=rfl
 have g1:=hg.ln
 have g2:=hg.rg
 have g3:=hg.pt
 have g4:=hg.nx
 have g5:=hg.sl
 rw[hl] at g1 g2 g3 g4 g5
 rw[hn] at g2 g4
 rw[hr] at g2
 rw[hp] at g3
 have h2:=h.rg
 have h3:=h.pt
 have h4:=hf2.rg
 have h6:=hf2.nx
 refine⟨zzd sh j t (zao m r) hx hw hd ?_,by have:=hf2.len; omega,by omega,by omega,by omega⟩
 intro x hxm
 exact h.jobs x (by show x∈m.jobs; rw[e]; exact List.mem_cons_of_mem _ hxm)
theorem St.tot (h:St k m)(e:m.jobs=(j,t)::r)(sh:Bool):Gf.tot (wait sh j t (zao m r)).jobs+1≤Gf.tot m.jobs:=by
 obtain⟨hj,hx,hw,hd⟩:=h.job e
 have:=zsf sh j t (zao m r) hx hw
 rw[e,Gf.tot]
 have h1:(jw (zao m r)).1=r:=rfl
 rw[h1] at this
 show Gf.tot (jw (wait sh j t (zao m r))).1+1≤t.size+Gf.tot r
 omega
end
theorem znt {sh:Bool}{n:Nat}{m:Mk}{j:Nat}{t:T}{r:List (Nat × T)}(e:m.jobs=(j,t)::r):run sh (n+1) m=run sh n (wait sh j t (zao m r)):=by
 rw[run]
 split
 ·rename_i h; rw[e] at h; cases h
 ·rename_i j' t' r' h
  rw[e] at h
  cases h
  rfl
theorem zjp {sh:Bool}{n:Nat}{m:Mk}(e:m.jobs=[]):run sh n m=m:=by
 cases n with
 |zero=>rfl
 |succ n=>
  rw[run]
  split
  ·rfl
  ·rename_i h; rw[e] at h; cases h
theorem qes {P:Mk→Prop}(sh:Bool){k:Nat}(hP:∀ m j t r,St k m→P m→m.jobs=(j,t)::r→P (wait sh j t (zao m r))):∀(n:Nat) (m:Mk),St k m→P m→Gf.tot m.jobs≤n→P (run sh n m)∧St k (run sh n m)∧(run sh n m).jobs=[]:=by
 intro n
 induction n with
 |zero=>
  intro m h hp hn
  have e:m.jobs=[]:=by
   cases hj:m.jobs with
   |nil=>rfl
   |cons x r=>rw[hj,Gf.tot] at hn; have:=size_pos x.2; omega
  rw[zjp e]
  exact⟨hp,h,e⟩
 |succ n ih=>
  intro m h hp hn
  cases hj:m.jobs with
  |nil=>rw[zjp hj]; exact⟨hp,h,hj⟩
  |cons x r=>
   obtain⟨j,t⟩:=x
   rw[znt hj]
   have:=h.tot hj sh
   exact ih _ (h.next hj sh) (hP m j t r h hp hj) (by omega)
theorem zns (sh:Bool)(t:T)(hx:t.letter=99)(hd:t.depth≤200):St (8 * t.size+1) (con sh 200 t mk0).fin∧Gf.tot (con sh 200 t mk0).fin.jobs≤t.size:=by
 have h0:Fit 0 mk0:=⟨Nat.le_refl _,by decide,by decide,Nat.le_refl _,fun v r e=>by cases e⟩
 have hf:=(zav sh 200 t mk0 0 hx h0).fin
 have hg:=(qak sh 200 t mk0).fin
 have ht:=zge sh 200 t mk0 hx
 have hj:=zfb sh 200 t mk0 hx hd (fun x hx=>by cases hx)
 have g1:=hg.ln
 have g2:=hg.rg
 have g3:=hg.pt
 have g4:=hg.nx
 have e1:mk0.ins.length=0:=rfl
 have e2:mk0.regs=0:=rfl
 have e3:mk0.next=0:=rfl
 have e4:mk0.puts=0:=rfl
 rw[e1] at g1 g2 g3 g4
 rw[e2,e3] at g2
 rw[e3] at g4
 rw[e4] at g3
 have h4:=hf.rg
 have h6:=hf.nx
 have h5:=hf.len
 have e5:(jw mk0).1=[]:=rfl
 rw[e5,Gf.tot] at ht
 refine⟨⟨hj,by omega,by omega,by omega,by omega⟩,?_⟩
 show Gf.tot (jw (con sh 200 t mk0)).1≤_
 omega
end Gf
end
section
open Go.RowKit
namespace Sm
open Co Gen Dn Gf
structure EnvOk (E:Vm.Env):Prop where
 move:∀ a b,E.rk 18 a b=a
 neg:∀ a b c,E.rk 4 a b=E.rk 4 a c
 not:∀ a b c,E.rk 12 a b=E.rk 12 a c
def bv1 (E:Vm.Env)(op n:Int)(s:ByteArray)(vs:List (Option Int)):Option Int:=
 if op=1∨op=2∨op=3 then some n
 else if op=4 then E.feed s n
 else if op=5 then some (E.now n)
 else match vs.getD 0 none with
  |none=>none
  |some a=>
   if op=15 then(if a=0 then some 0 else vs.getD 1 none)
   else if op=16 then(if a=0 then vs.getD 1 none else some a)
   else if op=22 then(if a=0 then vs.getD 2 none else vs.getD 1 none)
   else if op=6∨op=14 then some (E.rk (zah op) a 0)
   else match vs.getD 1 none with
    |none=>none
    |some b=>some (E.rk (zah op) a b)
mutual
def bval (E:Vm.Env):T→Option Int
 | .mk op n s ks=>bv1 E op n s (zxo E ks)
def zxo (E:Vm.Env):List T→List (Option Int)
 | []=>[]
 |k::r=>bval E k::zxo E r
end
section
variable {E:Vm.Env}{op n:Int}{s:ByteArray}{a b c:T}{ks:List T}
theorem zub (h:op=1∨op=2∨op=3):bval E (.mk op n s ks)=some n:=by rw[bval,bv1,if_pos h]
theorem qap:bval E (.mk 4 n s ks)=E.feed s n:=by rw[bval,bv1,if_neg (by omega),if_pos rfl]
theorem zua:bval E (.mk 5 n s ks)=some (E.now n):=by rw[bval,bv1,if_neg (by omega),if_neg (by omega),if_pos rfl]
theorem zof:bval E (.mk 15 n s [a,b])=(match bval E a with|none=>none|some x=>if x=0 then some 0 else bval E b):=by
 rw[bval,bv1,if_neg (by omega),if_neg (by omega),if_neg (by omega)]
 show(match bval E a with|none=>none|some a=>_)=_
 cases bval E a with
 |none=>rfl
 |some x=>simp only[if_pos]; rfl
theorem zqh:bval E (.mk 16 n s [a,b])=(match bval E a with|none=>none|some x=>if x=0 then bval E b else some x):=by
 rw[bval,bv1,if_neg (by omega),if_neg (by omega),if_neg (by omega)]
 show(match bval E a with|none=>none|some a=>_)=_
 cases bval E a with
 |none=>rfl
 |some x=>simp only[if_neg (show ¬(16:Int)=15 by decide),if_pos]; rfl
theorem zqi:bval E (.mk 22 n s [a,b,c])=(match bval E a with|none=>none|some x=>if x=0 then bval E c else bval E b):=by
 rw[bval,bv1,if_neg (by omega),if_neg (by omega),if_neg (by omega)]
 show(match bval E a with|none=>none|some a=>_)=_
 cases bval E a with
 |none=>rfl
 |some x=>simp only[if_neg (show ¬(22:Int)=15 by decide),if_neg (show ¬(22:Int)=16 by decide),if_pos]; rfl
theorem ztz (h:op=6∨op=14):bval E (.mk op n s [a])=(match bval E a with|none=>none|some x=>some (E.rk (zah op) x 0)):=by
 rw[bval,bv1,if_neg (by omega),if_neg (by omega),if_neg (by omega)]
 show(match bval E a with|none=>none|some a=>_)=_
 cases bval E a with
 |none=>rfl
 |some x=>simp only[if_neg (show ¬op=15 by omega),if_neg (show ¬op=16 by omega),if_neg (show ¬op=22 by omega),if_pos h]
theorem zty (h:zcv op):bval E (.mk op n s [a,b])=(match bval E a with|none=>none|some x=>match bval E b with|none=>none|some y=>some (E.rk (zah op) x y)):=by
 unfold zcv at h
 rw[bval,bv1,if_neg (by omega),if_neg (by omega),if_neg (by omega)]
 show(match bval E a with|none=>none|some a=>_)=_
 cases bval E a with
 |none=>rfl
 |some x=>
  by_cases h22:op=22
  ·omega
  ·by_cases h6:op=6
   ·omega
   ·simp only[if_neg (show ¬op=15 by omega),if_neg (show ¬op=16 by omega),if_neg h22,if_neg (show ¬(op=6∨op=14) by omega)]
    rfl
end
theorem zri (E:Vm.Env)(t:T):Obs t→zbs t=false→∃ v,bval E t=some v:=by
 induction t using T.ind with|h op n s ks ih=>?_
 intro ht hf
 rw[zgo,Bool.or_eq_false_iff] at hf
 have hk:∀ k∈ks,zbs k=false:=fun k hk=>by have:=List.any_eq_false.1 hf.2 k hk; simpa using this
 rcases zdj ht with h1|⟨rfl, -⟩|⟨rfl, -⟩|⟨h1,a,rfl,ha, -⟩|⟨h1,a,b,rfl,ha,hb⟩|⟨rfl,a,b,c,rfl,ha,hb,hc⟩|⟨h1,a,b,rfl,ha,hb⟩
 ·exact⟨n,zub h1⟩
 ·simp at hf
 ·exact⟨_,zua⟩
 ·obtain⟨x,hx⟩:=ih a (by simp) ha (hk a (by simp))
  exact⟨_,by rw[ztz h1,hx]⟩
 ·obtain⟨x,hx⟩:=ih a (by simp) (zbd ha) (hk a (by simp))
  obtain⟨y,hy⟩:=ih b (by simp) hb (hk b (by simp))
  rcases h1 with rfl|rfl
  ·by_cases h0:x=0
   ·exact⟨0,by rw[zof,hx]; simp only[if_pos h0]⟩
   ·exact⟨y,by rw[zof,hx]; simp only[if_neg h0]; exact hy⟩
  ·by_cases h0:x=0
   ·exact⟨y,by rw[zqh,hx]; simp only[if_pos h0]; exact hy⟩
   ·exact⟨x,by rw[zqh,hx]; simp only[if_neg h0]⟩
 ·obtain⟨x,hx⟩:=ih a (by simp) (zbd ha) (hk a (by simp))
  obtain⟨y,hy⟩:=ih b (by simp) hb (hk b (by simp))
  obtain⟨z,hz⟩:=ih c (by simp) hc (hk c (by simp))
  by_cases h0:x=0
  ·exact⟨z,by rw[zqi,hx]; simp only[if_pos h0]; exact hz⟩
  ·exact⟨y,by rw[zqi,hx]; simp only[if_neg h0]; exact hy⟩
 ·obtain⟨x,hx⟩:=ih a (by simp) ha (hk a (by simp))
  obtain⟨y,hy⟩:=ih b (by simp) hb (hk b (by simp))
  exact⟨_,by rw[zty h1,hx,hy]⟩
abbrev R:=List (T × Int) × List (ByteArray × Int)
def zgu:R:=([],[])
def zdg (t:T)(f:Int):R:=([(t,f)],[])
def both (x y:R):R:=(x.1++y.1,x.2++y.2)
def kidR (fs:List (Int→R))(i:Nat)(f:Int):R:=(fs.getD i fun _=>zgu) f
def den1 (E:Vm.Env)(op n:Int)(s:ByteArray)(t:T)(o:Option Int)(fs:List (Int→R))(f:Int):R:=
 if op=24 then([],if f=0 then [] else [(s,f)])
 else if op=25 then kidR fs 0 (E.neg f)
 else if op=27 then both (kidR fs 0 f) (kidR fs 1 (E.clamp f))
 else if op=26 then(match o with|none=>zdg t f|some x=>kidR fs 1 (E.mul f x))
 else if op=28 then(match o with|none=>zdg t f|some x=>if x=0 then kidR fs 2 f else kidR fs 1 f)
 else if op=29 then(if E.day<n then zdg t f else kidR fs 0 f)
 else if op=30 then(if n<E.day then zgu else match o with|none=>zdg t f|some x=>if x=0 then zdg t f else kidR fs 1 f)
 else if op=31 then(if n<E.day then kidR fs 1 f else zdg t f)
 else zgu
mutual
def den (E:Vm.Env):T→Int→R
 | .mk op n s ks=>den1 E op n s (.mk op n s ks) ((zxo E ks).getD 0 none) (dens E ks)
def dens (E:Vm.Env):List T→List (Int→R)
 | []=>[]
 |k::r=>den E k::dens E r
end
section
variable {E:Vm.Env}{n f:Int}{s:ByteArray}{o a b:T}{ks:List T}
theorem ztt:den E (.mk 23 n s ks) f=zgu:=by rw[den]; rfl
theorem zts:den E (.mk 24 n s ks) f=([],if f=0 then [] else [(s,f)]):=by rw[den]; rfl
theorem ztr:den E (.mk 25 n s [a]) f=den E a (E.neg f):=by rw[den]; rfl
theorem ztq:den E (.mk 27 n s [a,b]) f=both (den E a f) (den E b (E.clamp f)):=by rw[den]; rfl
theorem zmm:den E (.mk 26 n s [o,a]) f=(match bval E o with|none=>zdg (.mk 26 n s [o,a]) f|some x=>den E a (E.mul f x)):=by rw[den]; rfl
theorem zkc:den E (.mk 28 n s [o,a,b]) f=(match bval E o with|none=>zdg (.mk 28 n s [o,a,b]) f|some x=>if x=0 then den E b f else den E a f):=by rw[den]; rfl
theorem zph:den E (.mk 29 n s [a]) f=if E.day<n then zdg (.mk 29 n s [a]) f else den E a f:=by rw[den]; rfl
theorem zkb:den E (.mk 30 n s [o,a]) f=if n<E.day then zgu else(match bval E o with|none=>zdg (.mk 30 n s [o,a]) f|some x=>if x=0 then zdg (.mk 30 n s [o,a]) f else den E a f):=by rw[den]; rfl
theorem zpg:den E (.mk 31 n s [a,b]) f=if n<E.day then den E b f else zdg (.mk 31 n s [a,b]) f:=by rw[den]; rfl
end
theorem qah (E:Vm.Env)(t:T):t.letter=99→∀ f,∀ x∈(den E t f).1,den E x.1 x.2=zdg x.1 x.2:=by
 induction t using T.ind with|h op n s ks ih=>?_
 intro hx f
 have hw:∀(t:T) (f:Int),den E t f=zdg t f→∀ x∈(den E t f).1,den E x.1 x.2=zdg x.1 x.2:=fun t f e x hx=>by
  rw[e] at hx
  have:x=(t,f):=by simpa [zdg] using hx
  subst this
  exact e
 have hn:∀ x∈(zgu:R).1,den E x.1 x.2=zdg x.1 x.2:=fun x hx=>by cases hx
 rcases zbm hx with(⟨rfl,rfl⟩|⟨rfl,rfl⟩)|⟨h1,a,rfl,ha⟩|⟨rfl,o,a,rfl,ho,ha⟩|⟨h1,a,b,rfl,ha,hb⟩|⟨rfl,o,a,b,rfl,ho,ha,hb⟩|⟨rfl,o,a,rfl,ho,ha⟩
 ·rw[ztt]; exact hn
 ·rw[zts]; intro x hx; cases hx
 ·rcases h1 with rfl|rfl
  ·rw[ztr]; exact ih a (by simp) ha _
  ·by_cases h:E.day<n
   ·exact hw _ _ (by rw[zph,if_pos h])
   ·rw[zph,if_neg h]; exact ih a (by simp) ha _
 ·cases hv:bval E o with
  |none=>exact hw _ _ (by rw[zmm,hv])
  |some v=>rw[zmm,hv]; exact ih a (by simp) ha _
 ·rcases h1 with rfl|rfl
  ·rw[ztq]
   intro x hx
   rcases List.mem_append.1 (show x∈(den E a f).1++(den E b (E.clamp f)).1 from hx) with h|h
   ·exact ih a (by simp) ha _ x h
   ·exact ih b (by simp) hb _ x h
  ·by_cases h:n<E.day
   ·rw[zpg,if_pos h]; exact ih b (by simp) hb _
   ·exact hw _ _ (by rw[zpg,if_neg h])
 ·cases hv:bval E o with
  |none=>exact hw _ _ (by rw[zkc,hv])
  |some v=>
   by_cases h0:v=0
   ·rw[zkc,hv]; simp only[if_pos h0]; exact ih b (by simp) hb _
   ·rw[zkc,hv]; simp only[if_neg h0]; exact ih a (by simp) ha _
 ·by_cases h:n<E.day
  ·rw[zkb,if_pos h]; exact hn
  ·cases hv:bval E o with
   |none=>exact hw _ _ (by rw[zkb,if_neg h,hv])
   |some v=>
    by_cases h0:v=0
    ·exact hw _ _ (by rw[zkb,if_neg h,hv]; simp only[if_pos h0])
    ·rw[zkb,if_neg h,hv]; simp only[if_neg h0]; exact ih a (by simp) ha _
end Sm
end
section
open Go.RowKit
namespace Gf
open Co Gen Dn
def Within (u:List Nat)(m:Mk):Prop:=∀ p∈u,p<m.ins.length
theorem Within.more {u:List Nat}{m m':Mk}(h:Within u m)(hl:m.ins.length≤m'.ins.length):Within u m':=fun p hp=>Nat.lt_of_lt_of_le (h p hp) hl
theorem Within.snoc {u:List Nat}{m:Mk}(h:Within u m)(x:Ix):Within (u++[m.ins.length]) (m.lay x):=fun p hp=>by
 rw[zae]
 rcases List.mem_append.1 hp with h1|h1
 ·have:=h p h1; omega
 ·rw[List.mem_singleton] at h1; omega
theorem zft {sh:Bool}{out:Int}{o:Ob}(h:Within o.2.2 o.2.1):Within (into sh out o).2 (into sh out o).1:=h.more (by rw[zca]; omega)
theorem zer (sh:Bool)(v:Val){m:Mk}{u:List Nat}(h:Within u m):Within (zak sh v m u).2.2 (zak sh v m u).2.1:=by
 unfold zak
 split
 ·exact h
 ·show Within (if v.op=2 then u++[m.ins.length] else u) ((m.reg.lay (v.ix m.next)).put v m.next)
  split
  ·exact(Within.snoc (m:=m.reg) h (v.ix m.next)).more (Nat.le_refl _)
  ·exact h.more (by show m.ins.length≤(m.ins++[_]).length; simp)
theorem zfl (sh:Bool)(d:Nat):∀(t:T) (m:Mk) (u:List Nat),Within u m→Within (obs sh d t m u).2.2 (obs sh d t m u).2.1:=by
 induction d with
 |zero=>intro t m u h; exact h
 |succ d ih=>
  intro t m u h
  rw[obs]
  split
  ·exact zer _ _ h
  split
  ·exact zer _ _ h
  split
  ·exact zer _ _ h
  have h1:=zft (sh:=sh) (out:=m.next) (ih (t.kid 0) m.reg u h)
  split
  ·unfold chosen zdi
   simp only
   generalize into sh m.next (obs sh d (t.kid 0) m.reg u)=A at *
   have h2:=zft (sh:=sh) (out:=m.next) (ih (t.kid 1) (A.1.lay (ix 19 0 m.next 0)) A.2 (h1.more (by rw[zae]; omega)))
   exact h2.more (by rw[zbc,zaf,zai]; omega)
  split
  ·unfold chosen zec
   simp only
   generalize into sh m.next (obs sh d (t.kid 0) m.reg u)=A at *
   have h2:=zft (sh:=sh) (out:=m.next) (ih (t.kid 1) (((A.1.lay (ix 19 0 m.next 0)).lay (ix 20 0 0 0)).here A.1.ins.length) A.2 (h1.more (by rw[zaf,zae,zae]; omega)))
   exact h2.more (by rw[zbc,zaf,zai]; omega)
  split
  ·unfold chosen zed
   simp only
   generalize into sh m.next (obs sh d (t.kid 0) m.reg u)=A at *
   have h2:=zft (sh:=sh) (out:=m.next) (ih (t.kid 1) (A.1.lay (ix 19 0 m.next 0)) A.2 (h1.more (by rw[zae]; omega)))
   generalize into sh m.next (obs sh d (t.kid 1) (A.1.lay (ix 19 0 m.next 0)) A.2)=C at *
   have h3:=zft (sh:=sh) (out:=m.next) (ih (t.kid 2) (((C.1.back (A.1.lay (ix 19 0 m.next 0)).known).lay (ix 20 0 0 0)).here A.1.ins.length) C.2 (h2.more (by rw[zaf,zae,zai]; omega)))
   exact h3.more (by rw[zbc,zaf,zai]; omega)
  ·have h2:=ih (t.kid 0) m u h
   obtain⟨o,ho⟩:∃ o,obs sh d (t.kid 0) m u=o:=⟨_,rfl⟩
   rw[ho] at h2
   by_cases hl:1<t.ks.length
   ·have h3:=ih (t.kid 1) o.2.1 o.2.2 h2
    obtain⟨p,hp⟩:∃ p,obs sh d (t.kid 1) o.2.1 o.2.2=p:=⟨_,rfl⟩
    rw[hp] at h3
    rw[zdp hl rfl ho rfl hp]
    cases sh
    ·exact h3.more (by show _≤((p.2.1.lay _).free false _).ins.length; rw[zbc,zae]; omega)
    ·exact zer _ _ h3
   ·rw[zdq hl rfl ho]
    cases sh
    ·exact h2.more (by show _≤((o.2.1.lay _).free false _).ins.length; rw[zbc,zae]; omega)
    ·exact zer _ _ h2
end Gf
end
section
open Go.RowKit
namespace Sm
open Co Gen Dn Gf
section
variable {c:Cd}{E:Vm.Env}
def Does (c:Cd)(E:Vm.Env)(a f:Int)(r:List Int)(a' f':Int)(r':List Int)(k:Nat)(hs:List (Int × Int))(os:List (ByteArray × Int)):Prop:=
 ∀ H O s,s+k≤65536→H.length+hs.length≤250→Vm.run c E a f r ⟨H,O,s,false⟩=Vm.run c E a' f' r' ⟨H++hs,O++os,s+k,false⟩
def Ends (c:Cd)(E:Vm.Env)(a f:Int)(r:List Int)(k:Nat)(hs:List (Int × Int))(os:List (ByteArray × Int)):Prop:=
 ∀ H O s,s+k≤65536→H.length+hs.length≤250→Vm.run c E a f r ⟨H,O,s,false⟩=⟨H++hs,O++os,s+k,false⟩
def Steps (c:Cd)(E:Vm.Env)(a f:Int)(r:List Int)(a' f':Int)(r':List Int)(k:Nat):Prop:=Does c E a f r a' f' r' k [] []
variable {a a' a'' f f' f'':Int}{r r' r'':List Int}{k k':Nat}{hs hs':List (Int × Int)}{os os':List (ByteArray × Int)}
theorem Does.refl:Does c E a f r a f r 0 [] []:=fun H O s _ _=>by simp
theorem Does.trans (h:Does c E a f r a' f' r' k hs os)(h':Does c E a' f' r' a'' f'' r'' k' hs' os'):Does c E a f r a'' f'' r'' (k+k') (hs++hs') (os++os'):=by
 intro H O s h1 h2
 rw[List.length_append] at h2
 rw[h H O s (by omega) (by omega),h' _ _ _ (by omega) (by rw[List.length_append]; omega)]
 simp[Nat.add_assoc]
theorem Does.ends (h:Does c E a f r a' f' r' k hs os)(h':Ends c E a' f' r' k' hs' os'):Ends c E a f r (k+k') (hs++hs') (os++os'):=by
 intro H O s h1 h2
 rw[List.length_append] at h2
 rw[h H O s (by omega) (by omega),h' _ _ _ (by omega) (by rw[List.length_append]; omega)]
 simp[Nat.add_assoc]
theorem Steps.refl:Steps c E a f r a f r 0:=Does.refl
theorem Steps.trans (h:Steps c E a f r a' f' r' k)(h':Steps c E a' f' r' a'' f'' r'' k'):Steps c E a f r a'' f'' r'' (k+k'):=Does.trans h h'
theorem Steps.does (h:Steps c E a f r a' f' r' k)(h':Does c E a' f' r' a'' f'' r'' k' hs os):Does c E a f r a'' f'' r'' (k+k') hs os:=by
 have:=Does.trans h h'
 simpa using this
theorem Does.steps (h:Does c E a f r a' f' r' k hs os)(h':Steps c E a' f' r' a'' f'' r'' k'):Does c E a f r a'' f'' r'' (k+k') hs os:=by
 have:=Does.trans h h'
 simpa using this
theorem Steps.ends (h:Steps c E a f r a' f' r' k)(h':Ends c E a' f' r' k' hs os):Ends c E a f r (k+k') hs os:=by
 have:=Does.ends h h'
 simpa using this
theorem ziv {p:Nat}{x:Ix}(h:c.ins[p]? = some x):Vm.insAt c (p:Int)=x:=by
 unfold Vm.insAt
 rw[Int.toNat_natCast,h]
 rfl
theorem Steps.one {p:Nat}{x:Ix}(h:c.ins[p]? = some x)(ha:Vm.act c E x (p:Int) f r=.next a' f' r'):Steps c E (p:Int) f r a' f' r' 1:=by
 intro H O s h1 _
 rw[Vm.run_step,if_neg (by simp; omega),ziv h,ha]
 simp
theorem Ends.stop {p:Nat}{x:Ix}(h:c.ins[p]? = some x)(ho:x.op=30):Ends c E (p:Int) f r 1 [] []:=by
 intro H O s h1 _
 rw[Vm.run_step,if_neg (by simp; omega),ziv h]
 have:Vm.act c E x (p:Int) f r=.stop:=by unfold Vm.act; rw[if_pos ho]
 rw[this]
 simp
theorem Does.pay {p:Nat}{x:Ix}(h:c.ins[p]? = some x)(ho:x.op=27):Does c E (p:Int) f r ((p:Int)+1) f r 1 [] (if f=0 then [] else [(x.s,f)]):=by
 intro H O s h1 _
 rw[Vm.run_step,if_neg (by simp; omega),ziv h]
 by_cases h0:f=0
 ·have:Vm.act c E x (p:Int) f r=.next ((p:Int)+1) f r:=by
   unfold Vm.act
   rw[if_neg (by omega),if_neg (by omega),if_neg (by omega),if_neg (by omega),if_neg (by omega),if_neg (by omega),if_neg (by omega),if_neg (by omega),if_neg (by omega),if_pos ho,if_pos h0]
  rw[this,if_pos h0]
  simp
 ·have:Vm.act c E x (p:Int) f r=.pay:=by
   unfold Vm.act
   rw[if_neg (by omega),if_neg (by omega),if_neg (by omega),if_neg (by omega),if_neg (by omega),if_neg (by omega),if_neg (by omega),if_neg (by omega),if_neg (by omega),if_pos ho,if_neg h0]
  rw[this,if_neg h0]
  simp
theorem Does.hold {p:Nat}{x:Ix}(h:c.ins[p]? = some x)(ho:x.op=28):Does c E (p:Int) f r ((p:Int)+1) f r 1 [(x.n,f)] []:=by
 intro H O s h1 h2
 rw[Vm.run_step,if_neg (by simp; omega),ziv h]
 have:Vm.act c E x (p:Int) f r=.hold:=by
  unfold Vm.act
  rw[if_neg (by omega),if_neg (by omega),if_neg (by omega),if_neg (by omega),if_neg (by omega),if_neg (by omega),if_neg (by omega),if_neg (by omega),if_neg (by omega),if_neg (by omega),if_pos ho]
 rw[this]
 have h3:¬250<H.length+1:=by simpa using h2
 simp[h3]
theorem Does.call {p:Nat}{x:Ix}(h:c.ins[p]? = some x)(ho:x.op=29)(he:Ends c E (zbt c x.n) f Vm.zeros k hs os):Does c E (p:Int) f r ((p:Int)+1) f r (1+k) hs os:=by
 intro H O s h1 h2
 rw[Vm.run_step,if_neg (by simp; omega),ziv h]
 have:Vm.act c E x (p:Int) f r=.call (zbt c x.n):=by
  unfold Vm.act
  rw[if_neg (by omega),if_neg (by omega),if_neg (by omega),if_neg (by omega),if_neg (by omega),if_neg (by omega),if_neg (by omega),if_neg (by omega),if_neg (by omega),if_neg (by omega),if_neg (by omega),if_pos ho]
 rw[this]
 simp only
 rw[he H O (s+1) (by omega) h2]
 simp[Nat.add_assoc]
end
/-! Registers. -/
theorem zkp {r:List Int}{a v:Int}(hl:r.length=256)(ha:0≤a∧a<256):Vm.reg (Vm.setReg r a v) a=v:=by
 unfold Vm.reg Vm.setReg
 rw[List.getElem?_set_self (by omega)]
 rfl
theorem zgb {r:List Int}{a b v:Int}(ha:0≤a)(hb:0≤b)(h:a≠b):Vm.reg (Vm.setReg r a v) b=Vm.reg r b:=by
 unfold Vm.reg Vm.setReg
 rw[List.getElem?_set_ne (by omega)]
theorem zhy {r:List Int}{a v:Int}(hl:r.length=256):(Vm.setReg r a v).length=256:=by unfold Vm.setReg; rw[List.length_set,hl]
theorem zlm:Vm.zeros.length=256:=by unfold Vm.zeros; rw[List.length_replicate]
theorem zkz {c:Cd}(h:Gen.right c=true){p:Nat}{x:Ix}(hp:c.ins[p]? = some x):(useA x.op=true→0≤x.a∧x.a<256)∧(useB x.op=true→0≤x.b∧x.b<256):=by
 obtain⟨h1, -, -, -, -, -,h7⟩:=zbl h
 have h8:=h7 p x hp
 unfold insOk fld at h8
 simp only[Bool.and_eq_true,decide_eq_true_eq] at h8
 obtain⟨-, -,ha,hb, -⟩:=h8
 refine⟨fun e=>?_,fun e=>?_⟩
 ·rw[e] at ha; simp only[if_true,Bool.and_eq_true,decide_eq_true_eq] at ha; omega
 ·rw[e] at hb; simp only[if_true,Bool.and_eq_true,decide_eq_true_eq] at hb; omega
/-! What of the maker's code is kept. -/
def Fz (n:Nat)(l:List Ix)(m:Mk):Prop:=∀ p,p<n→m.ins[p]? = l[p]?
section
variable {n:Nat}{l:List Ix}{m m':Mk}
theorem Fz.same (h:Fz n l m)(e:m'.ins=m.ins):Fz n l m':=by unfold Fz; rw[e]; exact h
theorem Fz.lay (h:Fz n l m)(hn:n≤m.ins.length)(x:Ix):Fz n l (m.lay x):=fun p hp=>by
 show(m.ins++[x])[p]? = _
 rw[List.getElem?_append_left (by omega)]
 exact h p hp
theorem Fz.here (h:Fz n l m){q:Nat}(hq:n≤q):Fz n l (m.here q):=fun p hp=>by
 rw[zii,if_neg (by omega)]
 exact h p hp
theorem Fz.back (h:Fz n l m)(k:Val→Option Int):Fz n l (m.back k):=h.same rfl
theorem Fz.free (h:Fz n l m)(sh:Bool)(r:Int):Fz n l (m.free sh r):=h.same (by unfold Mk.free; cases sh<;>rfl)
theorem zhj (sh:Bool)(v:Val)(u:List Nat)(h:Fz n l m)(hn:n≤m.ins.length):Fz n l (zak sh v m u).2.1:=by
 unfold zak
 split
 ·exact h
 ·exact((h.same (m':=m.reg) rfl).lay hn _).same rfl
theorem zig {o:Ob}(sh:Bool)(out:Int)(h:Fz n l o.2.1)(hn:n≤o.2.1.ins.length):Fz n l (into sh out o).1:=(h.lay hn _).free sh _
end
theorem zsw (sh:Bool)(d:Nat):∀(t:T) (m:Mk) (u:List Nat) (n:Nat) (l:List Ix),Fz n l m→n≤m.ins.length→Fz n l (obs sh d t m u).2.1:=by
 induction d with
 |zero=>intro t m u n l h _; exact h
 |succ d ih=>
  intro t m u n l h hn
  rw[obs]
  split
  ·exact zhj _ _ _ h hn
  split
  ·exact zhj _ _ _ h hn
  split
  ·exact zhj _ _ _ h hn
  have la:=zap sh d (t.kid 0) m.reg u
  have lia:=zca sh m.next (obs sh d (t.kid 0) m.reg u)
  have ga:=zig sh m.next (ih (t.kid 0) m.reg u n l (h.same rfl) hn) (Nat.le_trans hn la)
  have hl0:m.reg.ins.length=m.ins.length:=rfl
  split
  ·unfold Gf.chosen zdi
   simp only
   generalize into sh m.next (obs sh d (t.kid 0) m.reg u)=A at *
   have lb:=zap sh d (t.kid 1) (A.1.lay (ix 19 0 m.next 0)) A.2
   rw[zae] at lb
   have gb:=zig sh m.next (ih (t.kid 1) (A.1.lay (ix 19 0 m.next 0)) A.2 n l (ga.lay (by omega) _) (by rw[zae]; omega)) (by omega)
   exact((gb.back _).here (by omega)).free sh _
  split
  ·unfold Gf.chosen zec
   simp only
   generalize into sh m.next (obs sh d (t.kid 0) m.reg u)=A at *
   have lb:=zap sh d (t.kid 1) (((A.1.lay (ix 19 0 m.next 0)).lay (ix 20 0 0 0)).here A.1.ins.length) A.2
   rw[zaf,zae,zae] at lb
   have gb:=zig sh m.next (ih (t.kid 1) (((A.1.lay (ix 19 0 m.next 0)).lay (ix 20 0 0 0)).here A.1.ins.length) A.2 n l (((ga.lay (by omega) _).lay (by rw[zae]; omega) _).here (by omega)) (by rw[zaf,zae,zae]; omega)) (by omega)
   exact((gb.back _).here (by omega)).free sh _
  split
  ·unfold Gf.chosen zed
   simp only
   generalize into sh m.next (obs sh d (t.kid 0) m.reg u)=A at *
   have lb:=zap sh d (t.kid 1) (A.1.lay (ix 19 0 m.next 0)) A.2
   rw[zae] at lb
   have lib:=zca sh m.next (obs sh d (t.kid 1) (A.1.lay (ix 19 0 m.next 0)) A.2)
   have gb:=zig sh m.next (ih (t.kid 1) (A.1.lay (ix 19 0 m.next 0)) A.2 n l (ga.lay (by omega) _) (by rw[zae]; omega)) (by omega)
   generalize into sh m.next (obs sh d (t.kid 1) (A.1.lay (ix 19 0 m.next 0)) A.2)=C at *
   have lc:=zap sh d (t.kid 2) (((C.1.back (A.1.lay (ix 19 0 m.next 0)).known).lay (ix 20 0 0 0)).here A.1.ins.length) C.2
   rw[zaf,zae,zai] at lc
   have gc:=zig sh m.next (ih (t.kid 2) (((C.1.back (A.1.lay (ix 19 0 m.next 0)).known).lay (ix 20 0 0 0)).here A.1.ins.length) C.2 n l (((gb.same (m':=C.1.back (A.1.lay (ix 19 0 m.next 0)).known) rfl).lay (by rw[zai]; omega) _).here (by omega)) (by rw[zaf,zae,zai]; omega)) (by omega)
   exact((gc.back _).here (by omega)).free sh _
  ·unfold zen
   simp only
   have g1:=ih (t.kid 0) m u n l h hn
   have l1:=zap sh d (t.kid 0) m u
   generalize obs sh d (t.kid 0) m u=A at *
   have h2:∀ b:Ob,b=(if 1<t.ks.length then obs sh d (t.kid 1) A.2.1 A.2.2 else(0,A.2.1,A.2.2))→Fz n l b.2.1∧n≤b.2.1.ins.length:=by
    rintro b rfl
    split
    ·exact⟨ih (t.kid 1) A.2.1 A.2.2 n l g1 (by omega),by have:=zap sh d (t.kid 1) A.2.1 A.2.2; omega⟩
    ·exact⟨g1,by show n≤A.2.1.ins.length; omega⟩
   split
   ·exact zhj _ _ _ (h2 _ rfl).1 (h2 _ rfl).2
   ·exact((h2 _ rfl).1.lay (h2 _ rfl).2 _).free sh _
theorem zmn (sh:Bool)(d:Nat):∀(t:T) (m:Mk) (n:Nat) (l:List Ix),Fz n l m→n≤m.ins.length→Fz n l (con sh d t m):=by
 induction d with
 |zero=>intro t m n l h _; exact h
 |succ d ih=>
  intro t m n l h hn
  have hc:∀(t:T) {m:Mk},Fz n l m∧n≤m.ins.length→Fz n l (con sh d t m)∧n≤(con sh d t m).ins.length:=fun t m h=>⟨ih t m n l h.1 h.2,Nat.le_trans h.2 (zhq sh d t m).2⟩
  have ho:∀(t:T) {m:Mk},Fz n l m∧n≤m.ins.length→Fz n l (obs sh d t m []).2.1∧n≤(obs sh d t m []).2.1.ins.length:=fun t m h=>⟨zsw sh d t m [] n l h.1 h.2,Nat.le_trans h.2 (zap sh d t m [])⟩
  have hl:∀(x:Ix) {m:Mk},Fz n l m∧n≤m.ins.length→Fz n l (m.lay x)∧n≤(m.lay x).ins.length:=fun x m h=>⟨h.1.lay h.2 x,by rw[zae]; omega⟩
  have he:∀(r:Int) {m:Mk},Fz n l m∧n≤m.ins.length→Fz n l (either (con sh d) r t m):=by
   intro r m h
   obtain⟨A,B,C,D,hA,hB,hC,hD,e⟩:=zba (con sh d) r t m
   have gA:Fz n l A∧n≤A.ins.length:=by rw[hA]; exact hl _ h
   have gB:Fz n l B∧n≤B.ins.length:=by rw[hB]; exact hc _ gA
   have gC:Fz n l C∧n≤C.ins.length:=by
    rw[hC,zaf]
    have:=hl (ix 20 0 0 0) (m:=B.back A.known) ⟨gB.1.same rfl,gB.2⟩
    exact⟨this.1.here h.2,this.2⟩
   have gD:Fz n l D∧n≤D.ins.length:=by rw[hD]; exact hc _ gC
   rw[e]
   exact(gD.1.same (m':=D.back C.known) rfl).here (by rw[zai]; exact gB.2)
  rw[con]
  split
  ·exact(hl (ix 29 0 0 m.ws.length) ⟨h,hn⟩).1.same rfl
  ·refine Fz.free ?_ sh _
   split
   ·exact(hl _ ⟨h,hn⟩).1
   split
   ·exact(hc _ (hl _ ⟨h,hn⟩)).1
   split
   ·exact(hc _ (hl _ (hc _ (hl _ (m:=m.reg) ⟨h.same rfl,hn⟩)))).1
   split
   ·simp only
    exact(hc _ (hl _ (ho _ ⟨h,hn⟩))).1
   split
   ·simp only
    exact he _ (ho _ ⟨h,hn⟩)
   ·exact h
theorem zmx (sh:Bool)(d:Nat):∀(t:T) (m:Mk) (u:List Nat),∀ p∈(obs sh d t m u).2.2,p∈u∨m.ins.length≤p:=by
 induction d with
 |zero=>intro t m u p hp; exact .inl hp
 |succ d ih=>
  intro t m u
  have hr:∀(v:Val) (m':Mk) (u':List Nat),m.ins.length≤m'.ins.length→(∀ p∈u',p∈u∨m.ins.length≤p)→∀ p∈(zak sh v m' u').2.2,p∈u∨m.ins.length≤p:=by
   intro v m' u' hl h p hp
   unfold zak at hp
   split at hp
   ·exact h p hp
   ·have hp':p∈(if v.op=2 then u'++[m'.ins.length] else u'):=hp
    split at hp'
    ·rcases List.mem_append.1 hp' with h1|h1
     ·exact h p h1
     ·rw[List.mem_singleton] at h1; subst h1; exact .inr hl
    ·exact h p hp'
  have hk:∀(t:T) (m':Mk) (u':List Nat),m.ins.length≤m'.ins.length→(∀ p∈u',p∈u∨m.ins.length≤p)→∀ p∈(obs sh d t m' u').2.2,p∈u∨m.ins.length≤p:=by
   intro t m' u' hl h p hp
   rcases ih t m' u' p hp with h1|h1
   ·exact h p h1
   ·exact .inr (by omega)
  have h0:∀ p∈u,p∈u∨m.ins.length≤p:=fun p hp=>.inl hp
  rw[obs]
  split
  ·exact hr _ m u (Nat.le_refl _) h0
  split
  ·exact hr _ m u (Nat.le_refl _) h0
  split
  ·exact hr _ m u (Nat.le_refl _) h0
  have ga:∀ p∈(into sh m.next (obs sh d (t.kid 0) m.reg u)).2,p∈u∨m.ins.length≤p:=hk (t.kid 0) m.reg u (Nat.le_refl _) h0
  have la:=zap sh d (t.kid 0) m.reg u
  have lia:=zca sh m.next (obs sh d (t.kid 0) m.reg u)
  have hl0:m.reg.ins.length=m.ins.length:=rfl
  split
  ·unfold Gf.chosen zdi
   simp only
   generalize into sh m.next (obs sh d (t.kid 0) m.reg u)=A at *
   exact hk (t.kid 1) (A.1.lay (ix 19 0 m.next 0)) A.2 (by rw[zae]; omega) ga
  split
  ·unfold Gf.chosen zec
   simp only
   generalize into sh m.next (obs sh d (t.kid 0) m.reg u)=A at *
   exact hk (t.kid 1) (((A.1.lay (ix 19 0 m.next 0)).lay (ix 20 0 0 0)).here A.1.ins.length) A.2 (by rw[zaf,zae,zae]; omega) ga
  split
  ·unfold Gf.chosen zed
   simp only
   generalize into sh m.next (obs sh d (t.kid 0) m.reg u)=A at *
   have gb:∀ p∈(into sh m.next (obs sh d (t.kid 1) (A.1.lay (ix 19 0 m.next 0)) A.2)).2,p∈u∨m.ins.length≤p:=hk (t.kid 1) (A.1.lay (ix 19 0 m.next 0)) A.2 (by rw[zae]; omega) ga
   have lb:=zap sh d (t.kid 1) (A.1.lay (ix 19 0 m.next 0)) A.2
   rw[zae] at lb
   have lib:=zca sh m.next (obs sh d (t.kid 1) (A.1.lay (ix 19 0 m.next 0)) A.2)
   generalize into sh m.next (obs sh d (t.kid 1) (A.1.lay (ix 19 0 m.next 0)) A.2)=C at *
   exact hk (t.kid 2) (((C.1.back (A.1.lay (ix 19 0 m.next 0)).known).lay (ix 20 0 0 0)).here A.1.ins.length) C.2 (by rw[zaf,zae,zai]; omega) gb
  ·have g1:=hk (t.kid 0) m u (Nat.le_refl _) h0
   have l1:=zap sh d (t.kid 0) m u
   obtain⟨o,hoo⟩:∃ o,obs sh d (t.kid 0) m u=o:=⟨_,rfl⟩
   rw[hoo] at g1 l1
   by_cases hl:1<t.ks.length
   ·have g2:=hk (t.kid 1) o.2.1 o.2.2 l1 g1
    have l2:=zap sh d (t.kid 1) o.2.1 o.2.2
    obtain⟨q,hq⟩:∃ q,obs sh d (t.kid 1) o.2.1 o.2.2=q:=⟨_,rfl⟩
    rw[hq] at g2 l2
    rw[zdp hl rfl hoo rfl hq]
    cases sh
    ·exact g2
    ·exact hr _ q.2.1 q.2.2 (by omega) g2
   ·rw[zdq hl rfl hoo]
    cases sh
    ·exact g1
    ·exact hr _ o.2.1 o.2.2 l1 g1
theorem zmb (d:Nat):∀(t:T) (m:Mk) (u:List Nat),Obs t→t.depth≤d→(obs false d t m u).1=m.next∧(obs false d t m u).2.1.next=m.next+1:=by
 induction d with
 |zero=>intro t m u _ hd; have:=zfc t; omega
 |succ d ih=>
  intro t m u ht hd
  obtain⟨op,n,s,ks⟩:=t
  have hkd:∀ k∈ks,k.depth≤d:=fun k hk=>by
   have h1:=zcy hk
   rw[T.depth] at hd
   omega
  rcases zdj ht with h1|⟨rfl,h2⟩|⟨rfl,h2⟩|⟨h1,a,rfl,ha, -⟩|⟨h1,a,b,rfl,ha,hb⟩|⟨rfl,a,b,c,rfl,ha,hb,hc⟩|⟨h1,a,b,rfl,ha,hb⟩
  ·rw[zgt (t:=.mk op n s ks) h1]; exact⟨rfl,rfl⟩
  ·rw[zio rfl]; exact⟨rfl,rfl⟩
  ·rw[zjv rfl]; exact⟨rfl,rfl⟩
  ·rw[zfs (by show 6≤op∧op≤21∧op≠15∧op≠16; omega),zdq (a:=a) (by simp[T.ks]) kid0 rfl,if_neg (by decide)]
   exact⟨(ih a m u ha (hkd a (by simp))).1,rfl⟩
  ·rcases h1 with rfl|rfl
   ·rw[zjw rfl]; exact⟨rfl,rfl⟩
   ·rw[zly rfl]; exact⟨rfl,rfl⟩
  ·rw[zlz rfl]; exact⟨rfl,rfl⟩
  ·rw[zfs (by unfold zcv at h1; show 6≤op∧op≤21∧op≠15∧op≠16; omega),zdp (a:=a) (b:=b) (by simp[T.ks]) kid0 rfl kid1 rfl,if_neg (by decide)]
   exact⟨(ih a m u ha (hkd a (by simp))).1,rfl⟩
theorem znv (d:Nat):∀(t:T) (m:Mk) (u:List Nat),m.next≤(obs true d t m u).2.1.next:=by
 induction d with
 |zero=>intro t m u; exact Int.le_refl _
 |succ d ih=>
  intro t m u
  have hr:∀(v:Val) (m':Mk) (u':List Nat),m'.next≤(zak true v m' u').2.1.next:=by
   intro v m' u'
   unfold zak
   split
   ·exact Int.le_refl _
   ·show m'.next≤m'.next+1; omega
  rw[obs]
  split
  ·exact hr _ _ _
  split
  ·exact hr _ _ _
  split
  ·exact hr _ _ _
  have ga:=ih (t.kid 0) m.reg u
  have e0:m.reg.next=m.next+1:=rfl
  split
  ·unfold Gf.chosen zdi
   simp only
   have gb:=ih (t.kid 1) ((into true m.next (obs true d (t.kid 0) m.reg u)).1.lay (ix 19 0 m.next 0)) (into true m.next (obs true d (t.kid 0) m.reg u)).2
   have e1:((into true m.next (obs true d (t.kid 0) m.reg u)).1.lay (ix 19 0 m.next 0)).next=(obs true d (t.kid 0) m.reg u).2.1.next:=rfl
   show m.next≤(obs true d (t.kid 1) ((into true m.next (obs true d (t.kid 0) m.reg u)).1.lay (ix 19 0 m.next 0)) (into true m.next (obs true d (t.kid 0) m.reg u)).2).2.1.next
   omega
  split
  ·unfold Gf.chosen zec
   simp only
   have gb:=ih (t.kid 1) ((((into true m.next (obs true d (t.kid 0) m.reg u)).1.lay (ix 19 0 m.next 0)).lay (ix 20 0 0 0)).here (into true m.next (obs true d (t.kid 0) m.reg u)).1.ins.length) (into true m.next (obs true d (t.kid 0) m.reg u)).2
   have e1:((((into true m.next (obs true d (t.kid 0) m.reg u)).1.lay (ix 19 0 m.next 0)).lay (ix 20 0 0 0)).here (into true m.next (obs true d (t.kid 0) m.reg u)).1.ins.length).next=(obs true d (t.kid 0) m.reg u).2.1.next:=rfl
   show m.next≤(obs true d (t.kid 1) ((((into true m.next (obs true d (t.kid 0) m.reg u)).1.lay (ix 19 0 m.next 0)).lay (ix 20 0 0 0)).here (into true m.next (obs true d (t.kid 0) m.reg u)).1.ins.length) (into true m.next (obs true d (t.kid 0) m.reg u)).2).2.1.next
   omega
  split
  ·unfold Gf.chosen zed
   simp only
   have gb:=ih (t.kid 1) ((into true m.next (obs true d (t.kid 0) m.reg u)).1.lay (ix 19 0 m.next 0)) (into true m.next (obs true d (t.kid 0) m.reg u)).2
   have e1:((into true m.next (obs true d (t.kid 0) m.reg u)).1.lay (ix 19 0 m.next 0)).next=(obs true d (t.kid 0) m.reg u).2.1.next:=rfl
   generalize into true m.next (obs true d (t.kid 0) m.reg u)=A at *
   have e2:(into true m.next (obs true d (t.kid 1) (A.1.lay (ix 19 0 m.next 0)) A.2)).1.next=(obs true d (t.kid 1) (A.1.lay (ix 19 0 m.next 0)) A.2).2.1.next:=rfl
   generalize into true m.next (obs true d (t.kid 1) (A.1.lay (ix 19 0 m.next 0)) A.2)=C at *
   have gc:=ih (t.kid 2) (((C.1.back (A.1.lay (ix 19 0 m.next 0)).known).lay (ix 20 0 0 0)).here A.1.ins.length) C.2
   have e3:(((C.1.back (A.1.lay (ix 19 0 m.next 0)).known).lay (ix 20 0 0 0)).here A.1.ins.length).next=C.1.next:=rfl
   show m.next≤(obs true d (t.kid 2) (((C.1.back (A.1.lay (ix 19 0 m.next 0)).known).lay (ix 20 0 0 0)).here A.1.ins.length) C.2).2.1.next
   omega
  ·have g1:=ih (t.kid 0) m u
   obtain⟨o,hoo⟩:∃ o,obs true d (t.kid 0) m u=o:=⟨_,rfl⟩
   rw[hoo] at g1
   by_cases hl:1<t.ks.length
   ·have g2:=ih (t.kid 1) o.2.1 o.2.2
    obtain⟨q,hq⟩:∃ q,obs true d (t.kid 1) o.2.1 o.2.2=q:=⟨_,rfl⟩
    rw[hq] at g2
    rw[zdp hl rfl hoo rfl hq,if_pos rfl]
    exact Int.le_trans (Int.le_trans g1 g2) (hr _ _ _)
   ·rw[zdq hl rfl hoo,if_pos rfl]
    exact Int.le_trans g1 (hr _ _ _)
end Sm
end
section
open Go.RowKit
namespace Sm
open Co Gen Dn Gf
/-! What an instruction reckons. -/
def vval (E:Vm.Env)(v:Val)(r:List Int):Option Int:=
 if v.op=1 then some v.n else if v.op=2 then E.feed v.s v.n else if v.op=3 then some (E.now v.n)
 else if v.op=4∨v.op=12 then some (E.rk v.op (Vm.reg r v.b) 0) else some (E.rk v.op (Vm.reg r v.b) (Vm.reg r v.c))
def opB (v:Val):Prop:=v.op≠1∧v.op≠2∧v.op≠3
def opC (v:Val):Prop:=opB v∧v.op≠4∧v.op≠12
theorem zqp {E:Vm.Env}{v:Val}{r r':List Int}(hb:opB v→Vm.reg r' v.b=Vm.reg r v.b)(hc:opC v→Vm.reg r' v.c=Vm.reg r v.c):vval E v r'=vval E v r:=by
 unfold vval
 by_cases h1:v.op=1
 ·rw[if_pos h1,if_pos h1]
 by_cases h2:v.op=2
 ·rw[if_neg h1,if_pos h2,if_neg h1,if_pos h2]
 by_cases h3:v.op=3
 ·rw[if_neg h1,if_neg h2,if_pos h3,if_neg h1,if_neg h2,if_pos h3]
 rw[if_neg h1,if_neg h2,if_neg h3,if_neg h1,if_neg h2,if_neg h3,hb ⟨h1,h2,h3⟩]
 by_cases h4:v.op=4∨v.op=12
 ·rw[if_pos h4,if_pos h4]
 ·rw[if_neg h4,if_neg h4,hc ⟨⟨h1,h2,h3⟩,fun e=>h4 (.inl e),fun e=>h4 (.inr e)⟩]
def KnOk (sh:Bool)(E:Vm.Env)(G:Int→Prop)(known:Val→Option Int)(r:List Int):Prop:=
 sh=true→∀ v x,known v=some x→G x∧(opB v→G v.b)∧(opC v→G v.c)∧vval E v r=some (Vm.reg r x)
theorem KnOk.mono {sh:Bool}{E:Vm.Env}{G G':Int→Prop}{known:Val→Option Int}{r:List Int}(h:KnOk sh E G known r)(hg:∀ x,G x→G' x):KnOk sh E G' known r:=fun e v x hx=>by
 obtain⟨h1,h2,h3,h4⟩:=h e v x hx
 exact⟨hg _ h1,fun y=>hg _ (h2 y),fun y=>hg _ (h3 y),h4⟩
theorem KnOk.regs {sh:Bool}{E:Vm.Env}{G:Int→Prop}{known:Val→Option Int}{r r':List Int}(h:KnOk sh E G known r)(hr:∀ x,G x→Vm.reg r' x=Vm.reg r x):KnOk sh E G known r':=fun e v x hx=>by
 obtain⟨h1,h2,h3,h4⟩:=h e v x hx
 exact⟨h1,h2,h3,by rw[zqp (fun y=>hr _ (h2 y)) (fun y=>hr _ (h3 y)),h4,hr _ h1]⟩
/-! The final code and a piece of it. -/
def Ag (c:Cd)(n:Nat)(m:Mk):Prop:=∀ p x,n≤p→m.ins[p]? = some x→∃ z,c.ins[p]? = some (reTo x z)∧(x.op≠2→z=x.to)
section
variable {c:Cd}{E:Vm.Env}{n n':Nat}{m m' m1:Mk}{f:Int}{r:List Int}
theorem Ag.sub (h:Ag c n m')(hn:n≤n')(hk:∀ p,n'≤p→p<m1.ins.length→m'.ins[p]? = m1.ins[p]?):Ag c n' m1:=fun p x hp hx=>
 h p x (Nat.le_trans hn hp) (by rw[hk p hp (List.getElem?_eq_some_iff.1 hx).1]; exact hx)
theorem Ag.get (h:Ag c n m){p:Nat}{x:Ix}(hp:n≤p)(hx:m.ins[p]? = some x)(ho:x.op≠2):c.ins[p]? = some x:=by
 obtain⟨z,h1,h2⟩:=h p x hp hx
 rw[h2 ho] at h1
 exact h1
theorem zbo (m:Mk)(x:Ix){p:Nat}(h:p<m.ins.length):(m.lay x).ins[p]? = m.ins[p]?:=List.getElem?_append_left h
theorem zbp (m:Mk)(x:Ix):(m.lay x).ins[m.ins.length]? = some x:=by show(m.ins++[x])[m.ins.length]? = _; simp
theorem zcs (m:Mk){p q:Nat}(h:q≠p):(m.here q).ins[p]? = m.ins[p]?:=by rw[zii,if_neg h]
theorem zev (m:Mk){q:Nat}{x:Ix}(h:m.ins[q]? = some x):(m.here q).ins[q]? = some (reTo x m.ins.length):=by rw[zii,if_pos rfl,h]; rfl
theorem zdd (m:Mk)(sh:Bool)(r:Int):(m.free sh r).ins=m.ins:=by unfold Mk.free; cases sh<;>rfl
theorem zxf (m:Mk)(sh:Bool)(r:Int):(m.free sh r).known=m.known:=by unfold Mk.free; cases sh<;>rfl
theorem zwj {v:Val}{a y z:Int}{p:Int}(he:EnvOk E)(hv:(1≤v.op∧v.op≤17))(h:vval E v r=some y):Vm.act c E (reTo (v.ix a) z) p f r=.next (p+1) f (Vm.setReg r a y):=by
 unfold vval at h
 unfold Vm.act
 show(if v.op=30 then _ else if v.op=1 then _ else if v.op=3 then _ else if v.op=2 then _ else if v.op=20∨v.op=19∨v.op=21∨v.op=22 then _ else if v.op=23 then _ else if v.op=24 then _ else if v.op=25 then _ else if v.op=26 then _ else if v.op=27 then _ else if v.op=28 then _ else if v.op=29 then _ else _)=_
 rw[if_neg (by omega)]
 by_cases h1:v.op=1
 ·rw[if_pos h1] at h
  cases h
  rw[if_pos h1]; rfl
 rw[if_neg h1] at h ⊢
 by_cases h3:v.op=3
 ·rw[if_neg (by omega),if_pos h3] at h
  cases h
  rw[if_pos h3]; rfl
 rw[if_neg h3]
 by_cases h2:v.op=2
 ·rw[if_pos h2] at h
  rw[if_pos h2]
  show(match E.feed v.s v.n with|none=>_|some n=>_)=_
  rw[h]; rfl
 rw[if_neg h2,if_neg h3] at h
 rw[if_neg h2,if_neg (by omega),if_neg (by omega),if_neg (by omega),if_neg (by omega),if_neg (by omega),if_neg (by omega),if_neg (by omega),if_neg (by omega)]
 by_cases h4:v.op=4∨v.op=12
 ·rw[if_pos h4] at h
  cases h
  show Vm.Act.next (p+1) f (Vm.setReg r a (E.rk v.op (Vm.reg r v.b) (Vm.reg r v.c)))=_
  rcases h4 with h4|h4
  ·rw[h4,he.neg _ _ 0]
  ·rw[h4,he.not _ _ 0]
 ·rw[if_neg h4] at h
  cases h
  rfl
theorem qdv {v:Val}{a z:Int}{p:Int}(hv:v.op=2)(h:vval E v r=none):Vm.act c E (reTo (v.ix a) z) p f r=.next z f r:=by
 unfold vval at h
 rw[if_neg (by omega),if_pos hv] at h
 unfold Vm.act
 show(if v.op=30 then _ else if v.op=1 then _ else if v.op=3 then _ else if v.op=2 then _ else _)=_
 rw[if_neg (by omega),if_neg (by omega),if_neg (by omega),if_pos hv]
 show(match E.feed v.s v.n with|none=>_|some n=>_)=_
 rw[h]; rfl
theorem qdu {a b z:Int}{p:Int}(he:EnvOk E):Vm.act c E (reTo (ix 18 a b 0) z) p f r=.next (p+1) f (Vm.setReg r a (Vm.reg r b)):=by
 show Vm.Act.next (p+1) f (Vm.setReg r a (E.rk 18 (Vm.reg r b) (Vm.reg r 0)))=_
 rw[he.move]
theorem qax {b z:Int}{p:Int}:Vm.act c E (reTo (ix 19 0 b 0) z) p f r=.next (if Vm.reg r b=0 then z else p+1) f r:=by
 show Vm.Act.next (if decide (Vm.reg r b=0)=true then z else p+1) f r=_
 by_cases h:Vm.reg r b=0
 ·rw[if_pos h,if_pos (by rw[decide_eq_true_eq]; exact h)]
 ·rw[if_neg h,if_neg (by rw[decide_eq_true_eq]; exact h)]
theorem qgc {z:Int}{p:Int}:Vm.act c E (reTo (ix 20 0 0 0) z) p f r=.next z f r:=rfl
end
/-! What an observable's code does. -/
def Gn (G:Int→Prop)(m m':Mk)(x:Int):Prop:=G x∨(m.next≤x∧x<m'.next)
def Got (c:Cd)(E:Vm.Env)(sh:Bool)(G:Int→Prop)(m:Mk)(o:Ob)(f:Int)(r:List Int)(y:Int):Prop:=
 ∃ k r',Steps c E m.ins.length f r o.2.1.ins.length f r' k∧k+m.ins.length≤o.2.1.ins.length∧r'.length=256∧(∀ x,0≤x→x<m.next→Vm.reg r' x=Vm.reg r x)∧Vm.reg r' o.1=y∧KnOk sh E (Gn G m o.2.1) o.2.1.known r'∧Gn G m o.2.1 o.1
def Lost (c:Cd)(E:Vm.Env)(m m':Mk)(u:List Nat)(f:Int)(r:List Int):Prop:=
 ∃ k r' p x,p∈u∧m.ins.length≤p∧c.ins[p]? = some x∧Steps c E m.ins.length f r x.to f r' k∧k+m.ins.length≤m'.ins.length
def ObSem (c:Cd)(E:Vm.Env)(sh:Bool)(G:Int→Prop)(m:Mk)(o:Ob)(f:Int)(r:List Int):Option Int→Prop
 |some y=>Got c E sh G m o f r y
 |none=>Lost c E m o.2.1 o.2.2 f r
structure Fine (c:Cd)(E:Vm.Env)(sh:Bool)(G:Int→Prop)(m:Mk)(r:List Int):Prop where
 nx:0≤m.next
 g:∀ x,G x→0≤x∧x<m.next
 len:r.length=256
 kn:KnOk sh E G m.known r
section
variable {c:Cd}{E:Vm.Env}{sh:Bool}{G:Int→Prop}{m:Mk}{f:Int}{r:List Int}{u:List Nat}
theorem zgi (hR:Gen.right c=true)(he:EnvOk E){v:Val}(hv:1≤v.op∧v.op≤17)(h:Fine c E sh G m r)(hb:opB v→G v.b)(hc:opC v→G v.c)(ha:Ag c m.ins.length (zak sh v m u).2.1):ObSem c E sh G m (zak sh v m u) f r (vval E v r):=by
 unfold zak at ha ⊢
 cases hk:(if sh=true then m.known v else none) with
 |some x=>
  have hs:sh=true:=by
   cases hsh:sh with
   |true=>rfl
   |false=>rw[hsh] at hk; simp at hk
  rw[if_pos hs] at hk
  obtain⟨h1,h2,h3,h4⟩:=h.kn hs v x hk
  rw[h4]
  exact⟨0,r,Steps.refl,by simp,h.len,fun _ _ _=>rfl,rfl,h.kn.mono fun x hx=>.inl hx,.inl h1⟩
 |none=>
  rw[hk] at ha
  simp only at ha ⊢
  have hlay:((m.reg.lay (v.ix m.next)).put v m.next).ins[m.ins.length]? = some (v.ix m.next):=zbp m.reg _
  have hlen:((m.reg.lay (v.ix m.next)).put v m.next).ins.length=m.ins.length+1:=by show(m.ins++[_]).length=_; simp
  obtain⟨z,hz, -⟩:=ha m.ins.length _ (Nat.le_refl _) hlay
  have hrg:=(zkz hR hz).1
  cases hy:vval E v r with
  |some y=>
   have hA:0≤m.next∧m.next<256:=hrg (by
    show useA v.op=true
    unfold useA
    simp only[Bool.and_eq_true,decide_eq_true_eq,Bool.or_eq_true]
    omega)
   have e1:=Steps.one (f:=f) (r:=r) hz (zwj he hv hy)
   have e2:Vm.reg (Vm.setReg r m.next y) m.next=y:=zkp h.len hA
   have e3:∀ x,0≤x→x<m.next→Vm.reg (Vm.setReg r m.next y) x=Vm.reg r x:=fun x hx hx2=>zgb h.nx hx (by omega)
   refine⟨1,Vm.setReg r m.next y,?_,?_,zhy h.len,e3,e2,?_,.inr ⟨Int.le_refl _,by show m.next<m.next+1; omega⟩⟩
   ·show Steps c E m.ins.length f r (((m.reg.lay (v.ix m.next)).put v m.next).ins.length:Int) f _ 1
    rw[hlen]
    exact e1
   ·show 1+m.ins.length≤((m.reg.lay (v.ix m.next)).put v m.next).ins.length
    omega
   ·intro hs w x hx
    have hkn:=(h.kn.regs (r':=Vm.setReg r m.next y) fun x hx=>e3 x (h.g x hx).1 (h.g x hx).2) hs
    have hx':((m.reg.lay (v.ix m.next)).put v m.next).known w=some x:=hx
    unfold Mk.put at hx'
    simp only at hx'
    by_cases e:w=v
    ·rw[if_pos e] at hx'
     cases hx'
     subst e
     refine⟨.inr ⟨Int.le_refl _,by show m.next<m.next+1; omega⟩,fun hh=>.inl (hb hh),fun hh=>.inl (hc hh),?_⟩
     rw[e2,zqp (fun hh=>e3 _ (h.g _ (hb hh)).1 (h.g _ (hb hh)).2) (fun hh=>e3 _ (h.g _ (hc hh)).1 (h.g _ (hc hh)).2),hy]
    ·rw[if_neg e] at hx'
     obtain⟨g1,g2,g3,g4⟩:=hkn w x hx'
     exact⟨.inl g1,fun hh=>.inl (g2 hh),fun hh=>.inl (g3 hh),g4⟩
  |none=>
   have h2:v.op=2:=by
    unfold vval at hy
    by_cases h2:v.op=2
    ·exact h2
    ·rw[if_neg h2] at hy
     split at hy
     ·cases hy
     split at hy
     ·cases hy
     split at hy<;>cases hy
   refine⟨1,r,m.ins.length,_,?_,Nat.le_refl _,hz,Steps.one hz (qdv h2 hy),?_⟩
   ·show m.ins.length∈(if v.op=2 then u++[m.ins.length] else u)
    rw[if_pos h2]; simp
   ·show 1+m.ins.length≤((m.reg.lay (v.ix m.next)).put v m.next).ins.length
    omega
end
end Sm
end
section
open Go.RowKit
namespace Sm
open Co Gen Dn Gf
theorem zvx (sh:Bool)(d:Nat):∀(t:T) (m:Mk) (u:List Nat),∀ p∈u,p∈(obs sh d t m u).2.2:=by
 induction d with
 |zero=>intro t m u p hp; exact hp
 |succ d ih=>
  intro t m u
  have hr:∀(v:Val) (m':Mk) (u':List Nat),∀ p∈u',p∈(zak sh v m' u').2.2:=by
   intro v m' u' p hp
   unfold zak
   split
   ·exact hp
   ·show p∈(if v.op=2 then u'++[m'.ins.length] else u')
    split
    ·exact List.mem_append_left _ hp
    ·exact hp
  rw[obs]
  split
  ·exact hr _ m u
  split
  ·exact hr _ m u
  split
  ·exact hr _ m u
  split
  ·exact fun p hp=>ih _ _ _ p (ih _ _ _ p hp)
  split
  ·exact fun p hp=>ih _ _ _ p (ih _ _ _ p hp)
  split
  ·exact fun p hp=>ih _ _ _ p (ih _ _ _ p (ih _ _ _ p hp))
  ·intro p hp
   have g1:=ih (t.kid 0) m u p hp
   obtain⟨o,hoo⟩:∃ o,obs sh d (t.kid 0) m u=o:=⟨_,rfl⟩
   rw[hoo] at g1
   by_cases hl:1<t.ks.length
   ·have g2:=ih (t.kid 1) o.2.1 o.2.2 p g1
    obtain⟨q,hq⟩:∃ q,obs sh d (t.kid 1) o.2.1 o.2.2=q:=⟨_,rfl⟩
    rw[hq] at g2
    rw[zdp hl rfl hoo rfl hq]
    cases sh
    ·exact g2
    ·exact hr _ q.2.1 q.2.2 p g2
   ·rw[zdq hl rfl hoo]
    cases sh
    ·exact g1
    ·exact hr _ o.2.1 o.2.2 p g1
theorem zkx {sh:Bool}{d:Nat}{t:T}{m:Mk}{u:List Nat}{out:Int}:∀ p∈u,p∈(into sh out (obs sh d t m u)).2:=fun p hp=>zvx sh d t m u p hp
theorem zdv (sh:Bool)(d:Nat)(t:T)(m:Mk)(u:List Nat)(ht:Obs t)(hd:t.depth≤d):m.next≤(obs sh d t m u).2.1.next:=by
 cases sh with
 |true=>exact znv d t m u
 |false=>have:=(zmb d t m u ht hd).2; omega
def qgn (c:Cd)(E:Vm.Env)(sh:Bool)(G:Int→Prop)(out:Int)(m A:Mk)(f:Int)(r:List Int)(y:Int):Prop:=
 ∃ k r',Steps c E m.ins.length f r A.ins.length f r' k∧k+m.ins.length≤A.ins.length∧r'.length=256∧(∀ x,0≤x→x<m.next→x≠out→Vm.reg r' x=Vm.reg r x)∧Vm.reg r' out=y∧KnOk sh E (Gn G m A) A.known r'
def qee (c:Cd)(E:Vm.Env)(sh:Bool)(G:Int→Prop)(out:Int)(m:Mk)(A:Mk × List Nat)(f:Int)(r:List Int):Option Int→Prop
 |some y=>qgn c E sh G out m A.1 f r y
 |none=>Lost c E m A.1 A.2 f r
section
variable {c:Cd}{E:Vm.Env}{sh:Bool}{G:Int→Prop}{m:Mk}{f:Int}{r:List Int}{u:List Nat}
theorem Lost.more {m' m'':Mk}{u':List Nat}(h:Lost c E m m' u f r)(hl:m'.ins.length≤m''.ins.length)(hu:∀ p∈u,p∈u'):Lost c E m m'' u' f r:=by
 obtain⟨k,r',p,x,h1,h2,h3,h4,h5⟩:=h
 exact⟨k,r',p,x,hu p h1,h2,h3,h4,by omega⟩
theorem Lost.ahead {m0 m':Mk}{r0:List Int}{k0:Nat}(h:Lost c E m m' u f r)(hs:Steps c E m0.ins.length f r0 m.ins.length f r k0)(hk:k0+m0.ins.length≤m.ins.length):Lost c E m0 m' u f r0:=by
 obtain⟨k,r',p,x,h1,h2,h3,h4,h5⟩:=h
 exact⟨k0+k,r',p,x,h1,by omega,h3,hs.trans h4,by omega⟩
theorem qfv (hR:Gen.right c=true)(he:EnvOk E){o:Ob}{out:Int}{ov:Option Int}(h:ObSem c E sh G m o f r ov)(hf:Fine c E sh G m r)(hG:∀ x,G x→x≠out)(h0:0≤out)(h1:out<m.next)(ha:Ag c m.ins.length (into sh out o).1)(hl:m.ins.length≤o.2.1.ins.length):qee c E sh G out m (into sh out o) f r ov:=by
 have hlen:=zca sh out o
 cases ov with
 |none=>exact Lost.more h (by omega) fun p hp=>hp
 |some y=>
  obtain⟨k,r',a1,a2,a3,a4,a5,a6,a7⟩:=h
  have hat:(into sh out o).1.ins[o.2.1.ins.length]? = some (ix 18 out o.1 0):=by
   show((o.2.1.lay _).free sh _).ins[_]? = _
   rw[zdd]; exact zbp _ _
  obtain⟨z,hz, -⟩:=ha _ _ hl hat
  have hrg:=(zkz hR hz).1 rfl
  have hA:0≤out∧out<256:=hrg
  have e1:=Steps.one (f:=f) (r:=r') hz (qdu he)
  refine⟨k+1,Vm.setReg r' out (Vm.reg r' o.1),?_,by omega,zhy a3,fun x hx hx2 hx3=>?_,?_,?_⟩
  ·rw[hlen]; exact a1.trans e1
  ·rw[zgb h0 hx (Ne.symm hx3)]; exact a4 x hx hx2
  ·rw[zkp a3 hA]; exact a5
  ·have hk:(into sh out o).1.known=o.2.1.known:=by show((o.2.1.lay _).free sh _).known=_; rw[zxf]; rfl
   rw[hk]
   intro hs
   have hn:(into sh out o).1.next=o.2.1.next:=by subst hs; rfl
   refine((a6.mono (G':=Gn G m (into sh out o).1) fun x hx=>by unfold Gn at hx ⊢; rw[hn]; exact hx).regs fun x hx=>?_) hs
   rcases hx with hx|hx
   ·exact zgb h0 (hf.g x hx).1 (Ne.symm (hG x hx))
   ·have:=hf.nx; exact zgb h0 (by omega) (by omega)
theorem close {fin:Mk}{u':List Nat}{r2:List Int}{k:Nat}{y:Int}(h0:0≤m.next)(hs:Steps c E m.ins.length f r fin.ins.length f r2 k)(hk:k+m.ins.length≤fin.ins.length)(hl:r2.length=256)
  (hp:∀ x,0≤x→x<m.next→Vm.reg r2 x=Vm.reg r x) (hy:Vm.reg r2 m.next=y) (hn:sh=true→m.next<fin.next) (hkn:KnOk sh E (Gn G m fin) fin.known r2):Got c E sh G m (m.next,fin.free sh (m.next+1),u') f r y:=by
 have hlen:(fin.free sh (m.next+1)).ins.length=fin.ins.length:=zbc _ _ _
 refine⟨k,r2,?_,?_,hl,hp,hy,?_,?_⟩
 ·show Steps c E _ f r ((fin.free sh (m.next+1)).ins.length:Int) f r2 k
  rw[hlen]; exact hs
 ·show k+_≤(fin.free sh (m.next+1)).ins.length
  omega
 ·intro e
  subst e
  exact hkn rfl
 ·cases sh with
  |true=>exact .inr ⟨Int.le_refl _,hn rfl⟩
  |false=>exact .inr ⟨Int.le_refl _,by show m.next<m.next+1; omega⟩
theorem zka {A b:Mk}{r1:List Int}{out:Int}{y:Int}{k:Nat}(hf:Fine c E sh G m r)(hG:∀ x,G x→x≠out)(h1:out+1=m.next)(hl:r1.length=256)(hk:KnOk sh E (Gn G m A) A.known r1)(hn:m.next≤A.next)(hb:A.next≤b.next)(hbk:b.known=A.known):
  Fine c E sh (Gn G m A) b r1∧∀ x,Gn G m A x→x≠out:=by
 refine⟨⟨?_,fun x hx=>?_,hl,by rw[hbk]; exact hk⟩,fun x hx=>?_⟩
 ·have:=hf.nx; omega
 ·have:=hf.nx
  rcases hx with hx|hx
  ·have:=hf.g x hx; omega
  ·omega
 ·rcases hx with hx|hx
  ·exact hG x hx
  ·omega
theorem zrc (out:Int)(o:Ob)(h:out+1≤o.2.1.next):out+1≤(into sh out o).1.next:=by
 cases sh with
 |true=>exact h
 |false=>exact Int.le_refl _
end
end Sm
end
section
open Go.RowKit
namespace Sm
open Co Gen Dn Gf
theorem Ag.same {c:Cd}{n:Nat}{m m':Mk}(h:Ag c n m')(e:m'.ins=m.ins):Ag c n m:=by unfold Ag at *; rw[←e]; exact h
theorem zjh (sh:Bool)(d:Nat)(t:T)(m:Mk)(u:List Nat)(out:Int):Fz m.ins.length m.ins (into sh out (obs sh d t m u)).1:=zig sh out (zsw sh d t m u _ _ (fun p _=>rfl) (Nat.le_refl _)) (zap sh d t m u)
theorem zgx (sh:Bool)(d:Nat)(t:T)(m:Mk)(u:List Nat)(out:Int):m.ins.length+1≤(into sh out (obs sh d t m u)).1.ins.length:=by
 have:=zca sh out (obs sh d t m u)
 have:=zap sh d t m u
 omega
def zpp (c:Cd)(E:Vm.Env)(sh:Bool)(f:Int)(d:Nat):Prop:=∀(t:T) (m:Mk) (u:List Nat) (G:Int→Prop) (r:List Int),Obs t→t.depth≤d→Fine c E sh G m r→Ag c m.ins.length (obs sh d t m u).2.1→ObSem c E sh G m (obs sh d t m u) f r (bval E t)
section
variable {c:Cd}{E:Vm.Env}{sh:Bool}{G:Int→Prop}{m:Mk}{f:Int}{r:List Int}{u:List Nat}{d:Nat}
theorem zgv (hR:Gen.right c=true)(he:EnvOk E)(IH:zpp c E sh f d){t:T}(ht:Obs t)(hd:t.depth≤d){out:Int}(hf:Fine c E sh G m r)(hG:∀ x,G x→x≠out)(h0:0≤out)(h1:out<m.next)(ha:Ag c m.ins.length (into sh out (obs sh d t m u)).1):qee c E sh G out m (into sh out (obs sh d t m u)) f r (bval E t):=by
 have hl:=zca sh out (obs sh d t m u)
 refine qfv hR he (IH t m u G r ht hd hf ?_) hf hG h0 h1 ha (zap sh d t m u)
 refine ha.sub (Nat.le_refl _) fun p hp hp2=>?_
 show((Mk.lay _ _).free sh _).ins[p]? = _
 rw[zdd,zbo _ _ hp2]
theorem zqa {t:T}(ht:Obs t)(hd:t.depth≤d){out:Int}(h1:out+1=m.next):m.next≤(into sh out (obs sh d t m u)).1.next:=by
 rw[←h1]
 exact zrc out _ (by have:=zdv sh d t m u ht hd; omega)
theorem zky {t:T}(ht:Obs t)(hd:t.depth≤d){out:Int}(h:out+1≤m.next)(hs:sh=true):m.next≤(into sh out (obs sh d t m u)).1.next:=by
 subst hs
 exact zdv true d t m u ht hd
theorem zgm {p:Nat}{L out:Int}(h:c.ins[p]? = some (reTo (ix 19 0 out 0) L)):Steps c E p f r (if Vm.reg r out=0 then L else((p+1:Nat):Int)) f r 1:=Steps.one h qax
theorem zpz {p:Nat}{L:Int}(h:c.ins[p]? = some (reTo (ix 20 0 0 0) L)):Steps c E p f r L f r 1:=Steps.one h qgc
theorem qfh (hR:Gen.right c=true)(he:EnvOk E)(IH:zpp c E sh f d){a b:T}{n:Int}{s:ByteArray}(ha:Obs a)(hb:Obs b)(da:a.depth≤d)(db:b.depth≤d)(hf:Fine c E sh G m r)
  (hag:Ag c m.ins.length (obs sh (d+1) (.mk 15 n s [a,b]) m u).2.1):ObSem c E sh G m (obs sh (d+1) (.mk 15 n s [a,b]) m u) f r (bval E (.mk 15 n s [a,b])):=by
 obtain⟨A,hA⟩:∃ A,into sh m.next (obs sh d a m.reg u)=A:=⟨_,rfl⟩
 obtain⟨B,hB⟩:∃ B,A.1.lay (ix 19 0 m.next 0)=B:=⟨_,rfl⟩
 obtain⟨C,hC⟩:∃ C,into sh m.next (obs sh d b B A.2)=C:=⟨_,rfl⟩
 obtain⟨F,hF⟩:∃ F,(C.1.back B.known).here A.1.ins.length=F:=⟨_,rfl⟩
 have e:obs sh (d+1) (.mk 15 n s [a,b]) m u=(m.next,F.free sh (m.next+1),C.2):=by
  rw[zjw rfl,←hF,←hC,←hB,←hA]; rfl
 rw[e] at hag ⊢
 replace hag:Ag c m.ins.length F:=hag.same (zdd _ _ _)
 have l0:m.reg.ins.length=m.ins.length:=rfl
 have lA:m.reg.ins.length+1≤A.1.ins.length:=by rw[←hA]; exact zgx ..
 have lB:B.ins.length=A.1.ins.length+1:=by rw[←hB,zae]
 have lC:B.ins.length+1≤C.1.ins.length:=by rw[←hC]; exact zgx ..
 have lF:F.ins.length=C.1.ins.length:=by rw[←hF,zaf,zai]
 have kC:Fz B.ins.length B.ins C.1:=by rw[←hC]; exact zjh sh d b B A.2 m.next
 have iF:∀ p,p≠A.1.ins.length→F.ins[p]? = C.1.ins[p]?:=fun p hp=>by rw[←hF,zcs _ (Ne.symm hp)]; rfl
 have iB:∀ p,p<A.1.ins.length→B.ins[p]? = A.1.ins[p]?:=fun p hp=>by rw[←hB,zbo _ _ hp]
 have jF:F.ins[A.1.ins.length]? = some (reTo (ix 19 0 m.next 0) C.1.ins.length):=by
  rw[←hF]
  refine zev (C.1.back B.known) ?_
  show C.1.ins[_]? = _
  rw[kC _ (by omega),←hB]; exact zbp _ _
 have gA:Ag c m.reg.ins.length A.1:=hag.sub (Nat.le_refl _) fun p hp hp2=>by rw[iF p (by omega),kC p (by omega),iB p hp2]
 have gC:Ag c B.ins.length C.1:=hag.sub (by omega) fun p hp hp2=>iF p (by omega)
 have jump:=hag.get (by omega) jF (show(19:Int)≠2 by decide)
 have h0:=hf.nx
 have hfr:Fine c E sh G m.reg r:=⟨by show 0≤m.next+1; omega,fun x hx=>by have:=hf.g x hx; show 0≤x∧x<m.next+1; omega,hf.len,hf.kn⟩
 have hGo:∀ x,G x→x≠m.next:=fun x hx=>by have:=hf.g x hx; omega
 have sA:=zgv (u:=u) hR he IH ha da (out:=m.next) hfr hGo h0 (by show m.next<m.next+1; omega) (by rw[hA]; exact gA)
 rw[hA] at sA
 have nA:m.reg.next≤A.1.next:=by rw[←hA]; exact zqa ha da rfl
 have nB:B.next=A.1.next:=by rw[←hB]; rfl
 have nF:F.next=C.1.next:=by rw[←hF]; rfl
 have kB:B.known=A.1.known:=by rw[←hB]; rfl
 have kF:F.known=A.1.known:=by rw[←hF]; exact kB
 have n1:m.reg.next=m.next+1:=rfl
 have nC:sh=true→B.next≤C.1.next:=fun hs=>by rw[←hC]; exact zky hb db (by omega) hs
 have uC:∀ p∈A.2,p∈C.2:=fun p hp=>by rw[←hC]; exact zkx p hp
 rw[zof]
 cases hv:bval E a with
 |none=>
  rw[hv] at sA
  exact(show Lost c E m A.1 A.2 f r from sA).more (by show _≤(F.free sh _).ins.length; rw[zbc]; omega) uC
 |some x=>
  rw[hv] at sA
  obtain⟨k1,r1,s1,b1,g1,p1,v1,kn1⟩:=sA
  have hj:=zgm (E:=E) (f:=f) (r:=r1) jump
  have gn:∀ x,Gn G m.reg A.1 x→sh=true→Gn G m F x:=fun x hx hs=>by
   rcases hx with hx|hx
   ·exact .inl hx
   ·have:=nC hs; exact .inr (by omega)
  simp only
  by_cases hx:x=0
  ·rw[if_pos hx]
   rw[v1,if_pos hx,←lF] at hj
   refine close hf.nx (s1.trans hj) (by omega) g1 (fun x hx hx2=>p1 x hx (by omega) (by omega)) (by rw[v1,hx]) (fun hs=>by have:=nC hs; omega) fun hs=>?_
   rw[kF]
   exact(fun hs=>(kn1.mono (G':=Gn G m F) fun x hx=>gn x hx hs) hs) hs
  ·rw[if_neg hx]
   rw[v1,if_neg hx,←lB] at hj
   obtain⟨fB,xB⟩:=zka (b:=B) (y:=x) (k:=k1) hfr hGo rfl g1 kn1 nA (by omega) kB
   have sC:=zgv (u:=A.2) hR he IH hb db (out:=m.next) fB xB h0 (by omega) (by rw[hC]; exact gC)
   rw[hC] at sC
   cases hw:bval E b with
   |none=>
    rw[hw] at sC
    exact((show Lost c E B C.1 C.2 f r1 from sC).ahead (m0:=m) (s1.trans hj) (by omega)).more (by show _≤(F.free sh _).ins.length; rw[zbc]; omega) fun p hp=>hp
   |some y=>
    rw[hw] at sC
    obtain⟨k2,r2,s2,b2,g2,p2,v2,kn2⟩:=sC
    refine close hf.nx (by rw[lF]; exact(s1.trans hj).trans s2) (by omega) g2 (fun x hx hx2=>by rw[p2 x hx (by omega) (by omega),p1 x hx (by omega) (by omega)]) v2 (fun hs=>by have:=nC hs; omega) fun hs=>?_
    rw[kF]
    exact(fun hs=>((kn1.regs (r':=r2) fun x hx=>p2 x (fB.g x hx).1 (fB.g x hx).2 (xB x hx)).mono (G':=Gn G m F) fun x hx=>gn x hx hs) hs) hs
theorem qfn (hR:Gen.right c=true)(he:EnvOk E)(IH:zpp c E sh f d){a b:T}{n:Int}{s:ByteArray}(ha:Obs a)(hb:Obs b)(da:a.depth≤d)(db:b.depth≤d)(hf:Fine c E sh G m r)
  (hag:Ag c m.ins.length (obs sh (d+1) (.mk 16 n s [a,b]) m u).2.1):ObSem c E sh G m (obs sh (d+1) (.mk 16 n s [a,b]) m u) f r (bval E (.mk 16 n s [a,b])):=by
 obtain⟨A,hA⟩:∃ A,into sh m.next (obs sh d a m.reg u)=A:=⟨_,rfl⟩
 obtain⟨B,hB⟩:∃ B,((A.1.lay (ix 19 0 m.next 0)).lay (ix 20 0 0 0)).here A.1.ins.length=B:=⟨_,rfl⟩
 obtain⟨C,hC⟩:∃ C,into sh m.next (obs sh d b B A.2)=C:=⟨_,rfl⟩
 obtain⟨F,hF⟩:∃ F,(C.1.back B.known).here (A.1.ins.length+1)=F:=⟨_,rfl⟩
 have e:obs sh (d+1) (.mk 16 n s [a,b]) m u=(m.next,F.free sh (m.next+1),C.2):=by
  rw[zly rfl,←hF,←hC,←hB,←hA]; rfl
 rw[e] at hag ⊢
 replace hag:Ag c m.ins.length F:=hag.same (zdd _ _ _)
 have l0:m.reg.ins.length=m.ins.length:=rfl
 have lA:m.reg.ins.length+1≤A.1.ins.length:=by rw[←hA]; exact zgx ..
 have lA1:(A.1.lay (ix 19 0 m.next 0)).ins.length=A.1.ins.length+1:=zae _ _
 have lB:B.ins.length=A.1.ins.length+2:=by rw[←hB,zaf,zae,zae]
 have lC:B.ins.length+1≤C.1.ins.length:=by rw[←hC]; exact zgx ..
 have lF:F.ins.length=C.1.ins.length:=by rw[←hF,zaf,zai]
 have kC:Fz B.ins.length B.ins C.1:=by rw[←hC]; exact zjh sh d b B A.2 m.next
 have iF:∀ p,p≠A.1.ins.length+1→F.ins[p]? = C.1.ins[p]?:=fun p hp=>by rw[←hF,zcs _ (Ne.symm hp)]; rfl
 have iB:∀ p,p<A.1.ins.length→B.ins[p]? = A.1.ins[p]?:=fun p hp=>by rw[←hB,zcs _ (by omega),zbo _ _ (by omega),zbo _ _ hp]
 have jF:F.ins[A.1.ins.length]? = some (reTo (ix 19 0 m.next 0) B.ins.length):=by
  rw[iF _ (by omega),kC _ (by omega)]
  have:=zev ((A.1.lay (ix 19 0 m.next 0)).lay (ix 20 0 0 0)) (q:=A.1.ins.length) (x:=ix 19 0 m.next 0) (by rw[zbo _ _ (by omega)]; exact zbp _ _)
  rw[hB] at this
  rw[this,zae,zae,lB]
 have jG:F.ins[A.1.ins.length+1]? = some (reTo (ix 20 0 0 0) C.1.ins.length):=by
  rw[←hF]
  refine zev (C.1.back B.known) ?_
  show C.1.ins[_]? = _
  rw[kC _ (by omega),←hB,zcs _ (by omega)]
  have:=zbp (A.1.lay (ix 19 0 m.next 0)) (ix 20 0 0 0)
  rw[lA1] at this
  exact this
 have gA:Ag c m.reg.ins.length A.1:=hag.sub (Nat.le_refl _) fun p hp hp2=>by rw[iF p (by omega),kC p (by omega),iB p hp2]
 have gC:Ag c B.ins.length C.1:=hag.sub (by omega) fun p hp hp2=>iF p (by omega)
 have jump:=hag.get (by omega) jF (show(19:Int)≠2 by decide)
 have jump2:=hag.get (by omega) jG (show(20:Int)≠2 by decide)
 have h0:=hf.nx
 have hfr:Fine c E sh G m.reg r:=⟨by show 0≤m.next+1; omega,fun x hx=>by have:=hf.g x hx; show 0≤x∧x<m.next+1; omega,hf.len,hf.kn⟩
 have hGo:∀ x,G x→x≠m.next:=fun x hx=>by have:=hf.g x hx; omega
 have sA:=zgv (u:=u) hR he IH ha da (out:=m.next) hfr hGo h0 (by show m.next<m.next+1; omega) (by rw[hA]; exact gA)
 rw[hA] at sA
 have nA:m.reg.next≤A.1.next:=by rw[←hA]; exact zqa ha da rfl
 have nB:B.next=A.1.next:=by rw[←hB]; rfl
 have nF:F.next=C.1.next:=by rw[←hF]; rfl
 have kB:B.known=A.1.known:=by rw[←hB]; rfl
 have kF:F.known=A.1.known:=by rw[←hF]; exact kB
 have n1:m.reg.next=m.next+1:=rfl
 have nC:sh=true→B.next≤C.1.next:=fun hs=>by rw[←hC]; exact zky hb db (by omega) hs
 have uC:∀ p∈A.2,p∈C.2:=fun p hp=>by rw[←hC]; exact zkx p hp
 rw[zqh]
 cases hv:bval E a with
 |none=>
  rw[hv] at sA
  exact(show Lost c E m A.1 A.2 f r from sA).more (by show _≤(F.free sh _).ins.length; rw[zbc]; omega) uC
 |some x=>
  rw[hv] at sA
  obtain⟨k1,r1,s1,b1,g1,p1,v1,kn1⟩:=sA
  have hj:=zgm (E:=E) (f:=f) (r:=r1) jump
  have hj2:=zpz (E:=E) (f:=f) (r:=r1) jump2
  have gn:∀ x,Gn G m.reg A.1 x→sh=true→Gn G m F x:=fun x hx hs=>by
   rcases hx with hx|hx
   ·exact .inl hx
   ·have:=nC hs; exact .inr (by omega)
  simp only
  by_cases hx:x=0
  ·rw[if_pos hx]
   rw[v1,if_pos hx] at hj
   obtain⟨fB,xB⟩:=zka (b:=B) (y:=x) (k:=k1) hfr hGo rfl g1 kn1 nA (by omega) kB
   have sC:=zgv (u:=A.2) hR he IH hb db (out:=m.next) fB xB h0 (by omega) (by rw[hC]; exact gC)
   rw[hC] at sC
   cases hw:bval E b with
   |none=>
    rw[hw] at sC
    exact((show Lost c E B C.1 C.2 f r1 from sC).ahead (m0:=m) (s1.trans hj) (by omega)).more (by show _≤(F.free sh _).ins.length; rw[zbc]; omega) fun p hp=>hp
   |some y=>
    rw[hw] at sC
    obtain⟨k2,r2,s2,b2,g2,p2,v2,kn2⟩:=sC
    refine close hf.nx (by rw[lF]; exact(s1.trans hj).trans s2) (by omega) g2 (fun x hx hx2=>by rw[p2 x hx (by omega) (by omega),p1 x hx (by omega) (by omega)]) v2 (fun hs=>by have:=nC hs; omega) fun hs=>?_
    rw[kF]
    exact(fun hs=>((kn1.regs (r':=r2) fun x hx=>p2 x (fB.g x hx).1 (fB.g x hx).2 (xB x hx)).mono (G':=Gn G m F) fun x hx=>gn x hx hs) hs) hs
  ·rw[if_neg hx]
   rw[v1,if_neg hx] at hj
   rw[←lF] at hj2
   refine close hf.nx ((s1.trans hj).trans hj2) (by omega) g1 (fun x hx hx2=>p1 x hx (by omega) (by omega)) v1 (fun hs=>by have:=nC hs; omega) fun hs=>?_
   rw[kF]
   exact(fun hs=>(kn1.mono (G':=Gn G m F) fun x hx=>gn x hx hs) hs) hs
theorem qfw (hR:Gen.right c=true)(he:EnvOk E)(IH:zpp c E sh f d){a b b2:T}{n:Int}{s:ByteArray}(ha:Obs a)(hb:Obs b)(hb2:Obs b2)(da:a.depth≤d)(db:b.depth≤d)(db2:b2.depth≤d)(hf:Fine c E sh G m r)
  (hag:Ag c m.ins.length (obs sh (d+1) (.mk 22 n s [a,b,b2]) m u).2.1):ObSem c E sh G m (obs sh (d+1) (.mk 22 n s [a,b,b2]) m u) f r (bval E (.mk 22 n s [a,b,b2])):=by
 obtain⟨A,hA⟩:∃ A,into sh m.next (obs sh d a m.reg u)=A:=⟨_,rfl⟩
 obtain⟨B,hB⟩:∃ B,A.1.lay (ix 19 0 m.next 0)=B:=⟨_,rfl⟩
 obtain⟨C,hC⟩:∃ C,into sh m.next (obs sh d b B A.2)=C:=⟨_,rfl⟩
 obtain⟨D,hD⟩:∃ D,((C.1.back B.known).lay (ix 20 0 0 0)).here A.1.ins.length=D:=⟨_,rfl⟩
 obtain⟨H,hH⟩:∃ H,into sh m.next (obs sh d b2 D C.2)=H:=⟨_,rfl⟩
 obtain⟨F,hF⟩:∃ F,(H.1.back D.known).here C.1.ins.length=F:=⟨_,rfl⟩
 have e:obs sh (d+1) (.mk 22 n s [a,b,b2]) m u=(m.next,F.free sh (m.next+1),H.2):=by
  rw[zlz rfl,←hF,←hH,←hD,←hC,←hB,←hA]; rfl
 rw[e] at hag ⊢
 replace hag:Ag c m.ins.length F:=hag.same (zdd _ _ _)
 have l0:m.reg.ins.length=m.ins.length:=rfl
 have lA:m.reg.ins.length+1≤A.1.ins.length:=by rw[←hA]; exact zgx ..
 have lB:B.ins.length=A.1.ins.length+1:=by rw[←hB,zae]
 have lC:B.ins.length+1≤C.1.ins.length:=by rw[←hC]; exact zgx ..
 have lD:D.ins.length=C.1.ins.length+1:=by rw[←hD,zaf,zae,zai]
 have lH:D.ins.length+1≤H.1.ins.length:=by rw[←hH]; exact zgx ..
 have lF:F.ins.length=H.1.ins.length:=by rw[←hF,zaf,zai]
 have kC:Fz B.ins.length B.ins C.1:=by rw[←hC]; exact zjh sh d b B A.2 m.next
 have kH:Fz D.ins.length D.ins H.1:=by rw[←hH]; exact zjh sh d b2 D C.2 m.next
 have iF:∀ p,p≠C.1.ins.length→F.ins[p]? = H.1.ins[p]?:=fun p hp=>by rw[←hF,zcs _ (Ne.symm hp)]; rfl
 have iB:∀ p,p<A.1.ins.length→B.ins[p]? = A.1.ins[p]?:=fun p hp=>by rw[←hB,zbo _ _ hp]
 have iD:∀ p,p<C.1.ins.length→p≠A.1.ins.length→D.ins[p]? = C.1.ins[p]?:=fun p hp hp2=>by rw[←hD,zcs _ (Ne.symm hp2),zbo _ _ (by rw[zai]; exact hp)]; rfl
 have jF:F.ins[A.1.ins.length]? = some (reTo (ix 19 0 m.next 0) D.ins.length):=by
  rw[iF _ (by omega),kH _ (by omega)]
  have:=zev ((C.1.back B.known).lay (ix 20 0 0 0)) (q:=A.1.ins.length) (x:=ix 19 0 m.next 0) (by
   rw[zbo _ _ (by rw[zai]; omega)]
   show C.1.ins[_]? = _
   rw[kC _ (by omega),←hB]; exact zbp _ _)
  rw[hD] at this
  rw[this,zae,zai,lD]
 have jG:F.ins[C.1.ins.length]? = some (reTo (ix 20 0 0 0) H.1.ins.length):=by
  rw[←hF]
  refine zev (H.1.back D.known) ?_
  show H.1.ins[_]? = _
  rw[kH _ (by omega),←hD,zcs _ (by omega)]
  exact zbp (C.1.back B.known) (ix 20 0 0 0)
 have gA:Ag c m.reg.ins.length A.1:=hag.sub (Nat.le_refl _) fun p hp hp2=>by rw[iF p (by omega),kH p (by omega),iD p (by omega) (by omega),kC p (by omega),iB p hp2]
 have gC:Ag c B.ins.length C.1:=hag.sub (by omega) fun p hp hp2=>by rw[iF p (by omega),kH p (by omega),iD p (by omega) (by omega)]
 have gH:Ag c D.ins.length H.1:=hag.sub (by omega) fun p hp hp2=>iF p (by omega)
 have jump:=hag.get (by omega) jF (show(19:Int)≠2 by decide)
 have jump2:=hag.get (by omega) jG (show(20:Int)≠2 by decide)
 have h0:=hf.nx
 have hfr:Fine c E sh G m.reg r:=⟨by show 0≤m.next+1; omega,fun x hx=>by have:=hf.g x hx; show 0≤x∧x<m.next+1; omega,hf.len,hf.kn⟩
 have hGo:∀ x,G x→x≠m.next:=fun x hx=>by have:=hf.g x hx; omega
 have sA:=zgv (u:=u) hR he IH ha da (out:=m.next) hfr hGo h0 (by show m.next<m.next+1; omega) (by rw[hA]; exact gA)
 rw[hA] at sA
 have nA:m.reg.next≤A.1.next:=by rw[←hA]; exact zqa ha da rfl
 have nB:B.next=A.1.next:=by rw[←hB]; rfl
 have nD:D.next=C.1.next:=by rw[←hD]; rfl
 have nF:F.next=H.1.next:=by rw[←hF]; rfl
 have kB:B.known=A.1.known:=by rw[←hB]; rfl
 have kD:D.known=A.1.known:=by rw[←hD]; exact kB
 have kF:F.known=A.1.known:=by rw[←hF]; exact kD
 have n1:m.reg.next=m.next+1:=rfl
 have nC0:m.next+1≤C.1.next:=by rw[←hC]; exact zrc m.next _ (by have:=zdv sh d b B A.2 hb db; omega)
 have nC:sh=true→B.next≤C.1.next:=fun hs=>by rw[←hC]; exact zky hb db (by omega) hs
 have nH:sh=true→D.next≤H.1.next:=fun hs=>by rw[←hH]; exact zky hb2 db2 (by omega) hs
 have uC:∀ p∈A.2,p∈C.2:=fun p hp=>by rw[←hC]; exact zkx p hp
 have uH:∀ p∈C.2,p∈H.2:=fun p hp=>by rw[←hH]; exact zkx p hp
 rw[zqi]
 cases hv:bval E a with
 |none=>
  rw[hv] at sA
  exact(show Lost c E m A.1 A.2 f r from sA).more (by show _≤(F.free sh _).ins.length; rw[zbc]; omega) fun p hp=>uH p (uC p hp)
 |some x=>
  rw[hv] at sA
  obtain⟨k1,r1,s1,b1,g1,p1,v1,kn1⟩:=sA
  have hj:=zgm (E:=E) (f:=f) (r:=r1) jump
  have gn:∀ x,Gn G m.reg A.1 x→sh=true→Gn G m F x:=fun x hx hs=>by
   rcases hx with hx|hx
   ·exact .inl hx
   ·have:=nC hs; have:=nH hs; exact .inr (by omega)
  simp only
  by_cases hx:x=0
  ·rw[if_pos hx]
   rw[v1,if_pos hx] at hj
   have fB:Fine c E sh (Gn G m.reg A.1) D r1∧∀ x,Gn G m.reg A.1 x→x≠m.next:=by
    cases sh with
    |true=>exact zka (b:=D) (y:=x) (k:=k1) hfr hGo rfl g1 kn1 nA (by have:=nC rfl; omega) kD
    |false=>
     have h:=zka (b:=B) (y:=x) (k:=k1) hfr hGo rfl g1 kn1 nA (by omega) kB
     have eA:A.1.next=m.next+1:=by rw[←hA]; rfl
     refine⟨⟨by omega,fun x hx=>?_,g1,fun hs=>by cases hs⟩,h.2⟩
     have:=h.1.g x hx
     omega
   obtain⟨fB,xB⟩:=fB
   have sH:=zgv (u:=C.2) hR he IH hb2 db2 (out:=m.next) fB xB h0 (by omega) (by rw[hH]; exact gH)
   rw[hH] at sH
   cases hw:bval E b2 with
   |none=>
    rw[hw] at sH
    exact((show Lost c E D H.1 H.2 f r1 from sH).ahead (m0:=m) (s1.trans hj) (by omega)).more (by show _≤(F.free sh _).ins.length; rw[zbc]; omega) fun p hp=>hp
   |some y=>
    rw[hw] at sH
    obtain⟨k2,r2,s2,b2,g2,p2,v2,kn2⟩:=sH
    refine close hf.nx (by rw[lF]; exact(s1.trans hj).trans s2) (by omega) g2 (fun x hx hx2=>by rw[p2 x hx (by omega) (by omega),p1 x hx (by omega) (by omega)]) v2 (fun hs=>by have:=nC hs; have:=nH hs; omega) fun hs=>?_
    rw[kF]
    exact(fun hs=>((kn1.regs (r':=r2) fun x hx=>p2 x (fB.g x hx).1 (fB.g x hx).2 (xB x hx)).mono (G':=Gn G m F) fun x hx=>gn x hx hs) hs) hs
  ·rw[if_neg hx]
   rw[v1,if_neg hx,←lB] at hj
   obtain⟨fB,xB⟩:=zka (b:=B) (y:=x) (k:=k1) hfr hGo rfl g1 kn1 nA (by omega) kB
   have sC:=zgv (u:=A.2) hR he IH hb db (out:=m.next) fB xB h0 (by omega) (by rw[hC]; exact gC)
   rw[hC] at sC
   cases hw:bval E b with
   |none=>
    rw[hw] at sC
    exact((show Lost c E B C.1 C.2 f r1 from sC).ahead (m0:=m) (s1.trans hj) (by omega)).more (by show _≤(F.free sh _).ins.length; rw[zbc]; omega) uH
   |some y=>
    rw[hw] at sC
    obtain⟨k2,r2,s2,b2,g2,p2,v2,kn2⟩:=sC
    have hj2:=zpz (E:=E) (f:=f) (r:=r2) jump2
    rw[←lF] at hj2
    refine close hf.nx (((s1.trans hj).trans s2).trans hj2) (by omega) g2 (fun x hx hx2=>by rw[p2 x hx (by omega) (by omega),p1 x hx (by omega) (by omega)]) v2 (fun hs=>by have:=nC hs; have:=nH hs; omega) fun hs=>?_
    rw[kF]
    exact(fun hs=>((kn1.regs (r':=r2) fun x hx=>p2 x (fB.g x hx).1 (fB.g x hx).2 (xB x hx)).mono (G':=Gn G m F) fun x hx=>gn x hx hs) hs) hs
end
end Sm
end
section
open Go.RowKit
namespace Gf
open Co Gen Dn
def wt0:Wt:=⟨0,0,txt0,0,0⟩
section
variable {O O' Fl Fl':Nat→Prop}{m m':Mk}
end
/-! What instructions are. -/
section
variable {R:Int}{W:Nat}{a b n:Int}
end
end Gf
end
section
open Go.RowKit
namespace Gf
open Co Gen Dn
theorem zib {op n:Int}{s:ByteArray}{ks:List T}(h:Obs (.mk op n s ks))(h22:op≠22):fields op n s=true:=(letter_inv rfl h.1 h22).2
theorem zzy {n:Int}{s:ByteArray}(h:fields 4 n s=true):Led.isName s=true ∧ -3660≤n∧n≤3660:=by
 simp[fields,Gen.within] at h
 exact⟨h.1,by omega⟩
theorem qcm {op:Int}(h:zcv op):zah op=5∨zah op=6∨zah op=7∨zah op=8∨zah op=9∨zah op=10∨zah op=11∨zah op=13∨zah op=14∨zah op=15∨zah op=16∨zah op=17:=by
 unfold zcv at h
 unfold zah
 split<;>omega
end Gf
end
end Go.Proofs.YtanlmbbalamgkaaGreatDoor
