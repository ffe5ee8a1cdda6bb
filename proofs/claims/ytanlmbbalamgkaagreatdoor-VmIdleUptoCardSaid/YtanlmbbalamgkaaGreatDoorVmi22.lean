/- Proved: lemmas and contracts of the functions that the law reaches, part 22 of 36: OptPlain, OptStep, GfPlain, GfLens, GfTree, OptNorm, GfMany, GfWaiting, OptMeas, OptRef3, OptTypeP, OptWalk1, OptFold, OptTwice, OptSettled, OptLater, OptChosen. Conditions: as each states. -/
import Derived.Test.YtanlmbbalamgkaaGreatDoorVmi6
import Derived.Test.YtanlmbbalamgkaaGreatDoorVmi12
import Derived.Test.YtanlmbbalamgkaaGreatDoorVmi19
import Derived.Test.YtanlmbbalamgkaaGreatDoorVmi21
namespace Go.Proofs.YtanlmbbalamgkaaGreatDoor
set_option linter.unusedVariables false
set_option linter.unusedSimpArgs false
section
open Go.RowKit
namespace Co
def leaf (op n:Int):T:=.mk op n ⟨#[]⟩ []
def isC (t:T):Bool:=t.op == 1 || t.op == 2 || t.op == 3
def isNum (t:T)(n:Int):Bool:=t.op == 1 && t.n == n
def isBool (t:T)(n:Int):Bool:=t.op == 2 && t.n == n
def T.kid (t:T)(i:Nat):T:=(t.ks[i]?).getD default
def kidN (t:T)(i:Nat):Int:=((t.ks[i]?).map T.n).getD 0
def tr (b:Bool):Int:=if b then 1 else 0
def foldOp (op a b:Int):Option T:=
 if op=6 then some (leaf 1 (Num.neg a))
 else if op=7 then some (leaf 1 (Num.add a b))
 else if op=8 then some (leaf 1 (Num.sub a b))
 else if op=9 then some (leaf 1 (Num.mul a b))
 else if op=10 then some (leaf 1 (Num.div a b))
 else if op=20 then some (leaf 1 (Dt.years a b))
 else if op=21 then some (leaf 1 (Dt.years30 a b))
 else if op=14 then some (leaf 2 (tr (decide (a=0))))
 else if op=11∨op=17 then some (leaf 2 (tr (decide (a<b))))
 else if op=12 then some (leaf 2 (tr (decide (a≤b))))
 else if op=13 then some (leaf 2 (tr (decide (a=b))))
 else if op=18 then some (leaf 3 (Dt.plus a (Num.whole b)))
 else if op=19 then some (leaf 3 (Dt.months a (Num.whole b)))
 else none
def fold (t:T):Option T:=if t.ks.length≤2∧t.ks.all isC=true then foldOp t.op (kidN t 0) (kidN t 1) else none
def twice (t:T):Option T:=if(t.op=6∨t.op=14∨t.op=25)∧(t.kid 0).op=t.op then some ((t.kid 0).kid 0) else none
def idleL (op:Int)(a b:T):Bool:=
 if op=7 then isNum a 0 else if op=9 then isNum a 1000000 else if op=15 then isBool a 1 else if op=16 then isBool a 0 else if op=27 then a.op == 23
 else if op=26 then isNum a 1000000 || (a.op == 1 && b.op == 23) else false
def idleR (op:Int)(a b:T):Bool:=
 if op=7 then isNum b 0 else if op=8 then isNum b 0 else if op=9 then isNum b 1000000 else if op=10 then isNum b 1000000 else if op=15 then isBool b 1 else if op=16 then isBool b 0 else if op=27 then b.op == 23
 else false
def idle (t:T):Option T:=if t.ks.length=2 then(if idleL t.op (t.kid 0) (t.kid 1)=true then some (t.kid 1) else if idleR t.op (t.kid 0) (t.kid 1)=true then some (t.kid 0) else none) else none
def settled (t:T):Option T:=if(t.op=15∧isBool (t.kid 0) 0=true)∨(t.op=16∧isBool (t.kid 0) 1=true)∨(t.op=25∧(t.kid 0).op=23) then some (t.kid 0) else none
def later (t:T):Option T:=if t.op=29∧(t.kid 0).op=29 then some (.mk 29 (max t.n (t.kid 0).n) ⟨#[]⟩ (t.kid 0).ks) else none
def chosen (t:T):Option T:=if(t.op=22∨t.op=28)∧(t.kid 0).op=2 then some (t.kid (2 - (t.kid 0).n).toNat) else none
def never (t:T):Option T:=if t.op=30∧isBool (t.kid 0) 0=true∧(t.kid 1).op≠23 then some (.mk 30 t.n ⟨#[]⟩ [t.kid 0,leaf 23 0]) else none
def rule (i:Nat)(t:T):Option T:=
 match i with
 |0=>fold t
 |1=>twice t
 |2=>idle t
 |3=>settled t
 |4=>later t
 |5=>chosen t
 |6=>never t
 |_=>none
def meas (t:T):Nat:=2 * t.size - (if t.op=30∧(t.kid 1).op=23 then 1 else 0)
structure Step (t u:T):Prop where
 letter:u.letter=t.letter
 meas:meas u<meas t
 size:u.size≤t.size
 depth:u.depth≤t.depth
 nodes:∀ x∈u.nodes,x∈t.nodes∨x.1=1∨x.1=2∨x.1=3∨x.1=23
 kids:∀ P:T→Prop,(∀ k∈t.ks,P k)→(∀ k:T,P k→∀ j∈k.ks,P j)→P (leaf 23 0)→∀ k∈u.ks,P k
structure Sub (t u:T):Prop where
 size:u.size<t.size
 depth:u.depth≤t.depth
 nodes:∀ x∈u.nodes,x∈t.nodes
 kids:∀ P:T→Prop,(∀ k∈t.ks,P k)→(∀ k:T,P k→∀ j∈k.ks,P j)→P u
theorem zfg {t k:T}(h:k∈t.ks):Sub t k:=by
 obtain⟨o,n,s,ks⟩:=t
 have h':k∈ks:=h
 refine⟨?_,?_,fun x hx=>?_,fun P h1 h2=>h1 k h⟩
 ·have:=sizes_mem h'; rw[T.size]; omega
 ·have:=zcy h'; rw[T.depth]; omega
 ·rw[T.nodes]; exact List.mem_cons_of_mem _ (mem_nodess.2 ⟨k,h',hx⟩)
theorem Sub.trans {t u v:T}(h:Sub t u)(k:Sub u v):Sub t v:=
 ⟨Nat.lt_trans k.size h.size,Nat.le_trans k.depth h.depth,fun x hx=>h.nodes x (k.nodes x hx),fun P h1 h2=>k.kids P (h2 u (h.kids P h1 h2)) h2⟩
theorem zpy (t:T):meas t≤2 * t.size:=Nat.sub_le _ _
theorem zmy (t:T):2 * t.size - 1≤meas t:=by unfold meas; split<;>omega
theorem Sub.step {t u:T}(h:Sub t u)(hl:u.letter=t.letter):Step t u:=by
 refine⟨hl,?_,Nat.le_of_lt h.size,h.depth,fun x hx=>.inl (h.nodes x hx),fun P h1 h2 h3=>h2 u (h.kids P h1 h2)⟩
 have:=zpy u
 have:=zmy t
 have:=h.size
 omega
theorem zza {t:T}{op n:Int}(hs:2≤t.size)(ho:op=1∨op=2∨op=3)(hl:(leaf op n).letter=t.letter):Step t (leaf op n):=by
 have e:(leaf op n).size=1:=rfl
 have hd:(leaf op n).depth=1:=rfl
 refine⟨hl,?_,by omega,by rw[hd]; exact zfc t,fun x hx=>?_,fun P h1 h2 h3 k hk=>by cases hk⟩
 ·have:=zpy (leaf op n)
  have:=zmy t
  omega
 ·have hx':x∈[(op,n)]:=hx
  rw[List.mem_singleton] at hx'
  subst hx'
  right
  rcases ho with h|h|h
  ·exact .inl h
  ·exact .inr (.inl h)
  ·exact .inr (.inr (.inl h))
theorem neg_in (a:Int) : -1000000000000000≤Num.neg a∧Num.neg a≤1000000000000000:=by
 have h1:=Num.clamp_le a
 have h2:=Num.clamp_ge a
 unfold Num.neg; omega
theorem zyd (b:Bool)(n:Nat)(h:n≤1000000000000000) : -1000000000000000≤Num.sgn b n∧Num.sgn b n≤1000000000000000:=by
 cases b<;>simp[Num.sgn]<;>omega
theorem zvu (x y d:Nat):Num.scl x y d≤1000000000000000:=by
 unfold Num.scl; split<;>omega
theorem mul_in (a b:Int) : -1000000000000000≤Num.mul a b∧Num.mul a b≤1000000000000000:=zyd _ _ (zvu _ _ _)
theorem div_in (a b:Int) : -1000000000000000≤Num.div a b∧Num.div a b≤1000000000000000:=by
 unfold Num.div
 split
 ·omega
 ·exact zyd _ _ (zvu _ _ _)
theorem add_in (a b:Int) : -1000000000000000≤Num.add a b∧Num.add a b≤1000000000000000:=⟨Num.clamp_ge _,Num.clamp_le _⟩
theorem sub_in (a b:Int) : -1000000000000000≤Num.sub a b∧Num.sub a b≤1000000000000000:=⟨Num.clamp_ge _,Num.clamp_le _⟩
theorem years_in (a b:Int) : -1000000000000000≤Dt.years a b∧Dt.years a b≤1000000000000000:=by
 unfold Dt.years Dt.ratio
 exact div_in _ _
theorem years30_in (a b:Int) : -1000000000000000≤Dt.years30 a b∧Dt.years30 a b≤1000000000000000:=by
 unfold Dt.years30 Dt.ratio
 exact div_in _ _
theorem tr_in (b:Bool):0≤tr b∧tr b≤1:=by cases b<;>simp[tr]
theorem plus_in (a b:Int):0≤Dt.plus a b∧Dt.plus a b≤73048:=⟨Dt.clamp_ge _,Dt.clamp_le _⟩
theorem qbr (y:Int):Dt.sumTo (Dt.feb y) 12=Dt.days y:=by
 unfold Dt.feb Dt.days
 split<;>rfl
theorem zxy (y:Int)(i:Nat)(h:i<12):Dt.sumTo (Dt.feb y) i+((Dt.lens (Dt.feb y))[i]?).getD 0≤Dt.days y:=by
 rw[←qbr y]
 have:=Dt.feb_in y
 rcases(by omega:i=0∨i=1∨i=2∨i=3∨i=4∨i=5∨i=6∨i=7∨i=8∨i=9∨i=10∨i=11) with rfl|rfl|rfl|rfl|rfl|rfl|rfl|rfl|rfl|rfl|rfl|rfl<;>simp[Dt.sumTo,Dt.lens]<;>omega
theorem zxs {y:Int}(h:1900≤y)(h2:y≤2099):Dt.ahead y+Dt.days y≤73049:=by
 by_cases h3:y≤2098
 ·unfold Dt.ahead Dt.days
  split<;>omega
 ·obtain rfl:y=2099:=by omega
  decide
theorem qfo {y d:Int}{i:Nat}(h:1900≤y)(h2:y≤2099)(hi:i<12):0≤Dt.ofD y i d∧Dt.ofD y i d≤73048:=by
 unfold Dt.ofD
 split
 ·omega
 ·rename_i hn
  have h3:=Dt.ahead_in h (by omega)
  have h4:=zxs h h2
  have h5:=zxy y i hi
  have h6:=Dt.sumTo_in y i (by omega)
  omega
theorem months_in (a b:Int):0≤Dt.months a b∧Dt.months a b≤73048:=by
 unfold Dt.months
 split
 ·omega
 ·split
  ·omega
  ·exact qfo (by omega) (by omega) (by omega)
theorem zfx {n:Int}(h : -1000000000000000≤n∧n≤1000000000000000):(leaf 1 n).letter=110:=zgc (by decide) want_1 (zxg h)
theorem qaq {n:Int}(h:0≤n∧n≤1):(leaf 2 n).letter=98:=zgc (by decide) want_2 (zvc h)
theorem ztu {n:Int}(h:0≤n∧n≤73048):(leaf 3 n).letter=100:=zgc (by decide) want_3 (zle (.inl rfl) h)
theorem zxu:(leaf 23 0).letter=99:=zgc (by decide) want_23 zvb
theorem zru {op a b:Int}{u:T}(h:foldOp op a b=some u){l:List UInt8}{x:UInt8}(hw:want op=some (l,x)):∃ o n,u=leaf o n∧(o=1∨o=2∨o=3)∧u.letter=x:=by
 rcases op_cases (want_in hw) with rfl|rfl|rfl|rfl|rfl|rfl|rfl|rfl|rfl|rfl|rfl|rfl|rfl|rfl|rfl|rfl|rfl|rfl|rfl|rfl|rfl|rfl|rfl|rfl|rfl|rfl|rfl|rfl|rfl|rfl|rfl
 all_goals first|(exfalso; simp[foldOp] at h; done)|skip
 all_goals simp[foldOp] at h
 all_goals subst h
 all_goals simp only[want_6,want_7,want_8,want_9,want_10,want_11,want_12,want_13,want_14,want_17,want_18,want_19,want_20,want_21] at hw
 all_goals cases hw
 all_goals with_reducible first
  |exact⟨_,_,rfl,.inl rfl,zfx (neg_in _)⟩
  |exact⟨_,_,rfl,.inl rfl,zfx (mul_in _ _)⟩
  |exact⟨_,_,rfl,.inl rfl,zfx (div_in _ _)⟩
  |exact⟨_,_,rfl,.inl rfl,zfx (add_in _ _)⟩
  |exact⟨_,_,rfl,.inl rfl,zfx (sub_in _ _)⟩
  |exact⟨_,_,rfl,.inl rfl,zfx (years_in _ _)⟩
  |exact⟨_,_,rfl,.inl rfl,zfx (years30_in _ _)⟩
  |exact⟨_,_,rfl,.inr (.inl rfl),qaq (tr_in _)⟩
  |exact⟨_,_,rfl,.inr (.inr rfl),ztu (plus_in _ _)⟩
  |exact⟨_,_,rfl,.inr (.inr rfl),ztu (months_in _ _)⟩
end Co
end
section
open Go.RowKit
namespace Co
theorem open_kids {t:T}{l:List UInt8}{r:UInt8}(ho:t.op≠22)(hw:want t.op=some (l,r))(hx:t.letter≠0):t.ks.map T.letter=l∧t.letter=r∧fields t.op t.n t.s=true:=by
 obtain⟨op,n,s,ks⟩:=t
 obtain⟨h1,h2⟩:=letter_inv rfl hx ho
 have hw':want op=some (l,r):=hw
 rw[hw'] at h1
 simp only[Option.some.injEq,Prod.mk.injEq] at h1
 exact⟨h1.1.symm,h1.2.symm,h2⟩
theorem one_kid {t:T}{a:UInt8}(h:t.ks.map T.letter=[a]):∃ k,t.ks=[k]∧k.letter=a∧t.kid 0=k:=by
 match hk:t.ks with
 | [k]=>rw[hk] at h; exact⟨k,rfl,by simpa using h,by simp[T.kid,hk]⟩
 | []=>rw[hk] at h; cases h
 |_::_::_=>rw[hk] at h; simp at h
theorem two_kids {t:T}{a b:UInt8}(h:t.ks.map T.letter=[a,b]):∃ k j,t.ks=[k,j]∧(k.letter=a∧j.letter=b)∧t.kid 0=k∧t.kid 1=j:=by
 match hk:t.ks with
 | [k,j]=>rw[hk] at h; exact⟨k,j,rfl,by simpa using h,by simp[T.kid,hk],by simp[T.kid,hk]⟩
 | []=>rw[hk] at h; cases h
 | [_]=>rw[hk] at h; simp at h
 |_::_::_::_=>rw[hk] at h; simp at h
theorem three_kids {t:T}{a b c:UInt8}(h:t.ks.map T.letter=[a,b,c]):∃ k j i,t.ks=[k,j,i]∧(k.letter=a∧j.letter=b∧i.letter=c)∧t.kid 0=k∧t.kid 1=j∧t.kid 2=i:=by
 match hk:t.ks with
 | [k,j,i]=>rw[hk] at h; exact⟨k,j,i,rfl,by simpa using h,by simp[T.kid,hk],by simp[T.kid,hk],by simp[T.kid,hk]⟩
 | []=>rw[hk] at h; cases h
 | [_]=>rw[hk] at h; simp at h
 | [_,_]=>rw[hk] at h; simp at h
 |_::_::_::_::_=>rw[hk] at h; simp at h
theorem qca {t:T}(h:t.ks≠[]):2≤t.size:=by
 obtain⟨o,n,s,ks⟩:=t
 match ks,h with
 |k::r,_=>
  have:=size_pos k
  rw[T.size,sizes]
  omega
theorem zwm {t u:T}(h:twice t=some u)(hx:t.letter≠0):Step t u:=by
 unfold twice at h
 split at h
 ·rename_i hc
  obtain⟨ho,hk⟩:=hc
  cases h
  have go:∀(op:Int) (a:UInt8),op≠22→want op=some ([a],a)→a≠0→t.op=op→Step t ((t.kid 0).kid 0):=by
   intro op a h22 hw ha e
   obtain⟨h1,h2, -⟩:=open_kids (t:=t) (by rw[e]; exact h22) (by rw[e]; exact hw) hx
   obtain⟨k,hk1,hk2,hk3⟩:=one_kid h1
   rw[hk3] at hk ⊢
   obtain⟨h3,h4, -⟩:=open_kids (t:=k) (by rw[hk,e]; exact h22) (by rw[hk,e]; exact hw) (by rw[hk2]; exact ha)
   obtain⟨j,hj1,hj2,hj3⟩:=one_kid h3
   rw[hj3]
   refine((zfg (t:=t) (k:=k) (by rw[hk1]; simp)).trans (zfg (t:=k) (k:=j) (by rw[hj1]; simp))).step ?_
   rw[h2,hj2]
  rcases ho with e|e|e
  ·exact go 6 110 (by decide) want_6 (by decide) e
  ·exact go 14 98 (by decide) want_14 (by decide) e
  ·exact go 25 99 (by decide) want_25 (by decide) e
 ·cases h
theorem zzp {t u:T}(h:fold t=some u)(hx:t.letter≠0):Step t u:=by
 unfold fold at h
 split at h
 ·by_cases h22:t.op=22
  ·rw[h22] at h
   simp[foldOp] at h
  ·obtain⟨op,n,s,ks⟩:=t
   obtain⟨h1,h2⟩:=letter_inv rfl hx h22
   obtain⟨o,m,rfl,ho,hl⟩:=zru h h1
   refine zza (qca ?_) ho hl
   intro e
   have e':ks=[]:=e
   subst e'
   rcases op_cases (want_in h1) with rfl|rfl|rfl|rfl|rfl|rfl|rfl|rfl|rfl|rfl|rfl|rfl|rfl|rfl|rfl|rfl|rfl|rfl|rfl|rfl|rfl|rfl|rfl|rfl|rfl|rfl|rfl|rfl|rfl|rfl|rfl
   all_goals first
    |(simp[foldOp,T.op] at h; done)
    |(simp[want_6,want_7,want_8,want_9,want_10,want_11,want_12,want_13,want_14,want_17,want_18,want_19,want_20,want_21] at h1; done)
 ·cases h
theorem zzm {t u:T}(h:idle t=some u)(hx:t.letter≠0):Step t u:=by
 unfold idle at h
 split at h
 ·rename_i hlen
  obtain⟨a,b,hk⟩:∃ a b,t.ks=[a,b]:=by
   match hk:t.ks with
   | [a,b]=>exact⟨a,b,rfl⟩
   | []=>rw[hk] at hlen; cases hlen
   | [_]=>rw[hk] at hlen; simp at hlen
   |_::_::_::_=>rw[hk] at hlen; simp at hlen
  have ka:t.kid 0=a:=by simp[T.kid,hk]
  have kb:t.kid 1=b:=by simp[T.kid,hk]
  rw[ka,kb] at h
  have hsa:Sub t a:=zfg (by rw[hk]; simp)
  have hsb:Sub t b:=zfg (by rw[hk]; simp)
  have same:∀(op:Int) (x:UInt8),op≠22→want op=some ([x,x],x)→t.op=op→a.letter=t.letter∧b.letter=t.letter:=by
   intro op x h22 hw e
   obtain⟨h1,h2, -⟩:=open_kids (t:=t) (by rw[e]; exact h22) (by rw[e]; exact hw) hx
   rw[hk] at h1
   simp at h1
   rw[h2]
   exact h1
  have scale:t.op=26→b.letter=t.letter:=by
   intro e
   obtain⟨h1,h2, -⟩:=open_kids (t:=t) (by rw[e]; decide) (by rw[e]; exact want_26) hx
   rw[hk] at h1
   simp at h1
   rw[h2]
   exact h1.2
  split at h
  ·rename_i hl
   cases h
   refine hsb.step ?_
   unfold idleL at hl
   split at hl
   ·rename_i e; exact(same 7 110 (by decide) want_7 e).2
   split at hl
   ·rename_i e; exact(same 9 110 (by decide) want_9 e).2
   split at hl
   ·rename_i e; exact(same 15 98 (by decide) want_15 e).2
   split at hl
   ·rename_i e; exact(same 16 98 (by decide) want_16 e).2
   split at hl
   ·rename_i e; exact(same 27 99 (by decide) want_27 e).2
   split at hl
   ·rename_i e; exact scale e
   ·cases hl
  ·split at h
   ·rename_i hr
    cases h
    refine hsa.step ?_
    unfold idleR at hr
    split at hr
    ·rename_i e; exact(same 7 110 (by decide) want_7 e).1
    split at hr
    ·rename_i e; exact(same 8 110 (by decide) want_8 e).1
    split at hr
    ·rename_i e; exact(same 9 110 (by decide) want_9 e).1
    split at hr
    ·rename_i e; exact(same 10 110 (by decide) want_10 e).1
    split at hr
    ·rename_i e; exact(same 15 98 (by decide) want_15 e).1
    split at hr
    ·rename_i e; exact(same 16 98 (by decide) want_16 e).1
    split at hr
    ·rename_i e; exact(same 27 99 (by decide) want_27 e).1
    ·cases hr
   ·cases h
 ·cases h
theorem zsn {t u:T}(h:settled t=some u)(hx:t.letter≠0):Step t u:=by
 unfold settled at h
 split at h
 ·rename_i hc
  cases h
  rcases hc with⟨e, -⟩|⟨e, -⟩|⟨e, -⟩
  ·obtain⟨h1,h2, -⟩:=open_kids (t:=t) (by rw[e]; decide) (by rw[e]; exact want_15) hx
   obtain⟨k,j,hk1,hk2,hk3, -⟩:=two_kids h1
   rw[hk3]
   exact(zfg (t:=t) (k:=k) (by rw[hk1]; simp)).step (by rw[h2,hk2.1])
  ·obtain⟨h1,h2, -⟩:=open_kids (t:=t) (by rw[e]; decide) (by rw[e]; exact want_16) hx
   obtain⟨k,j,hk1,hk2,hk3, -⟩:=two_kids h1
   rw[hk3]
   exact(zfg (t:=t) (k:=k) (by rw[hk1]; simp)).step (by rw[h2,hk2.1])
  ·obtain⟨h1,h2, -⟩:=open_kids (t:=t) (by rw[e]; decide) (by rw[e]; exact want_25) hx
   obtain⟨k,hk1,hk2,hk3⟩:=one_kid h1
   rw[hk3]
   exact(zfg (t:=t) (k:=k) (by rw[hk1]; simp)).step (by rw[h2,hk2])
 ·cases h
theorem zwy {t u:T}(h:later t=some u)(hx:t.letter≠0):Step t u:=by
 unfold later at h
 split at h
 ·rename_i hc
  obtain⟨e,e2⟩:=hc
  cases h
  obtain⟨h1,h2,h3⟩:=open_kids (t:=t) (by rw[e]; decide) (by rw[e]; exact want_29) hx
  obtain⟨k,hk1,hk2,hk3⟩:=one_kid h1
  rw[hk3] at e2 ⊢
  obtain⟨h4,h5,h6⟩:=open_kids (t:=k) (by rw[e2]; decide) (by rw[e2]; exact want_29) (by rw[hk2]; decide)
  obtain⟨j,hj1,hj2,hj3⟩:=one_kid h4
  rw[e] at h3
  rw[e2] at h6
  have d1:=zix (.inr (.inl rfl)) h3
  have d2:=zix (.inr (.inl rfl)) h6
  have hl:(T.mk 29 (max t.n k.n) ⟨#[]⟩ k.ks).letter=t.letter:=by
   rw[h2]
   refine zgc (by decide) ?_ (zle (.inr (.inl rfl)) (by omega))
   rw[hj1,want_29]
   simp[hj2]
  obtain⟨o,n,s,ks⟩:=t
  obtain⟨o2,n2,s2,ks2⟩:=k
  have ek:ks=[T.mk o2 n2 s2 ks2]:=hk1
  subst ek
  have ee:o=29:=e
  have ee2:o2=29:=e2
  subst ee ee2
  refine⟨hl,?_,?_,?_,fun x hx=>?_,fun P h1 h2 h3 k hk=>?_⟩
  ·have a1:=zpy (T.mk 29 (max n n2) ⟨#[]⟩ ks2)
   have a2:=zmy (T.mk 29 n s [T.mk 29 n2 s2 ks2])
   have a3:(T.mk 29 (max n n2) ⟨#[]⟩ ks2).size=1+sizes ks2:=by rw[T.size]
   have a4:(T.mk 29 n s [T.mk 29 n2 s2 ks2]).size=1+(1+sizes ks2+0):=by rw[T.size,sizes,sizes,T.size]
   show meas (T.mk 29 (max n n2) ⟨#[]⟩ ks2)<_
   omega
  ·show(T.mk 29 (max n n2) ⟨#[]⟩ ks2).size≤_
   rw[T.size,T.size,sizes,T.size]
   omega
  ·show(T.mk 29 (max n n2) ⟨#[]⟩ ks2).depth≤_
   rw[T.depth,T.depth,zcz,T.depth]
   omega
  ·have hx':x∈(29,max n n2)::zcw ks2:=hx
   have e:(T.mk 29 n s [T.mk 29 n2 s2 ks2]).nodes=(29,n)::(((29,n2)::zcw ks2)++[]):=by rw[T.nodes,zcw,T.nodes,zcw]
   rw[e]
   left
   rcases List.mem_cons.1 hx' with rfl|hx'
   ·rcases(by omega:max n n2=n∨max n n2=n2) with h|h<;>rw[h]<;>simp
   ·simp[hx']
  ·exact h2 (T.mk 29 n2 s2 ks2) (h1 _ (by show _∈[_]; simp)) k hk
 ·cases h
theorem zvk {t u:T}(h:chosen t=some u)(hx:t.letter≠0):Step t u:=by
 unfold chosen at h
 split at h
 ·rename_i hc
  obtain⟨ho,e2⟩:=hc
  cases h
  have h3:∃ k j i,t.ks=[k,j,i]∧(k.letter=98∧j.letter=t.letter∧i.letter=t.letter)∧t.kid 0=k∧t.kid 1=j∧t.kid 2=i:=by
   rcases ho with e|e
   ·obtain⟨o,n,s,ks⟩:=t
    have ee:o=22:=e
    subst ee
    obtain⟨a,b,c,rfl,l1,l2,l3, -, -⟩:=(letter_22 hx).1 rfl
    exact⟨a,b,c,rfl,⟨l1,l2,l3⟩,rfl,rfl,rfl⟩
   ·obtain⟨h1,h2, -⟩:=open_kids (t:=t) (by rw[e]; decide) (by rw[e]; exact want_28) hx
    obtain⟨k,j,i,a1,a2,a3,a4,a5⟩:=three_kids h1
    exact⟨k,j,i,a1,by rw[h2]; exact a2,a3,a4,a5⟩
  obtain⟨k,j,i,a1,⟨l1,l2,l3⟩,a3,a4,a5⟩:=h3
  rw[a3] at e2 ⊢
  obtain⟨-, -,hf⟩:=open_kids (t:=k) (by rw[e2]; decide) (by rw[e2]; exact want_2) (by rw[l1]; decide)
  rw[e2] at hf
  rcases bool_of hf with e|e
  ·rw[e]
   show Step t (t.kid 2)
   rw[a5]
   exact(zfg (t:=t) (k:=i) (by rw[a1]; simp)).step l3
  ·rw[e]
   show Step t (t.kid 1)
   rw[a4]
   exact(zfg (t:=t) (k:=j) (by rw[a1]; simp)).step l2
 ·cases h
theorem zwv {t u:T}(h:never t=some u)(hx:t.letter≠0):Step t u:=by
 unfold never at h
 split at h
 ·rename_i hc
  obtain⟨e,hb,hz⟩:=hc
  cases h
  obtain⟨h1,h2,h3⟩:=open_kids (t:=t) (by rw[e]; decide) (by rw[e]; exact want_30) hx
  obtain⟨k,j,hk1,hk2,hk3,hk4⟩:=two_kids h1
  rw[hk4] at hz
  rw[hk3] at hb ⊢
  rw[e] at h3
  have hl:(T.mk 30 t.n ⟨#[]⟩ [k,leaf 23 0]).letter=t.letter:=by
   rw[h2]
   refine zgc (by decide) ?_ (zle (.inr (.inr rfl)) (zix (.inr (.inr rfl)) h3))
   rw[want_30]
   simp[hk2.1,zxu]
  obtain⟨o,n,s,ks⟩:=t
  have ek:ks=[k,j]:=hk1
  subst ek
  have ee:o=30:=e
  subst ee
  have p1:=size_pos j
  have z1:(leaf 23 0).size=1:=rfl
  have z2:(leaf 23 0).depth=1:=rfl
  have p2:=zfc j
  have s1:(T.mk 30 n ⟨#[]⟩ [k,leaf 23 0]).size=1+(k.size+(1+0)):=by rw[T.size,sizes,sizes,sizes,z1]
  have s2:(T.mk 30 n s [k,j]).size=1+(k.size+(j.size+0)):=by rw[T.size,sizes,sizes,sizes]
  refine⟨hl,?_,?_,?_,fun x hx=>?_,fun P h1 h2 h3 q hq=>?_⟩
  ·have m1:meas (T.mk 30 n ⟨#[]⟩ [k,leaf 23 0])=2 * (T.mk 30 n ⟨#[]⟩ [k,leaf 23 0]).size - 1:=by
    unfold meas
    rw[if_pos ⟨rfl,rfl⟩]
   have m2:meas (T.mk 30 n s [k,j])=2 * (T.mk 30 n s [k,j]).size:=by
    unfold meas
    rw[if_neg (fun h=>hz h.2)]
    rfl
   show meas (T.mk 30 n ⟨#[]⟩ [k,leaf 23 0])<_
   rw[m1,m2]
   omega
  ·show(T.mk 30 n ⟨#[]⟩ [k,leaf 23 0]).size≤_
   omega
  ·show(T.mk 30 n ⟨#[]⟩ [k,leaf 23 0]).depth≤_
   rw[T.depth,T.depth,zcz,zcz,zcz,zcz,zcz,z2]
   omega
  ·have hx':x∈(T.mk 30 n ⟨#[]⟩ [k,leaf 23 0]).nodes:=hx
   have e1:(T.mk 30 n ⟨#[]⟩ [k,leaf 23 0]).nodes=(30,n)::(k.nodes++[(23,0)]):=by rw[T.nodes,zcw,zcw,zcw]; rfl
   have e2:(T.mk 30 n s [k,j]).nodes=(30,n)::(k.nodes++(j.nodes++[])):=by rw[T.nodes,zcw,zcw,zcw]
   rw[e1] at hx'
   rw[e2]
   rcases List.mem_cons.1 hx' with rfl|hx'
   ·left; simp
   ·rcases List.mem_append.1 hx' with hx'|hx'
    ·left; simp[hx']
    ·rw[List.mem_singleton] at hx'
     subst hx'
     exact .inr (.inr (.inr (.inr rfl)))
  ·have hq':q∈[k,leaf 23 0]:=hq
   simp only[List.mem_cons,List.not_mem_nil,or_false] at hq'
   rcases hq' with rfl|rfl
   ·exact h1 _ (by show _∈[_,_]; simp)
   ·exact h3
 ·cases h
theorem zyh {i:Nat}{t u:T}(h:rule i t=some u)(hx:t.letter≠0):Step t u:=by
 unfold rule at h
 split at h
 ·exact zzp h hx
 ·exact zwm h hx
 ·exact zzm h hx
 ·exact zsn h hx
 ·exact zwy h hx
 ·exact zvk h hx
 ·exact zwv h hx
 ·cases h
end Co
end
section
open Go.RowKit
namespace Gf
open Co Gen
structure Val where
 op:Int
 n:Int
 s:ByteArray
 b:Int
 c:Int
structure Mk where
 regs:Int
 ws:List Wt
 ins:List Ix
 jobs:List (Nat × T)
 next:Int
 known:Val→Option Int
 over:Bool
 puts:Nat
def zhf:Val→Option Int:=fun _=>none
def txt0:ByteArray:=⟨#[]⟩
def mk0:Mk:=⟨0,[],[],[],0,zhf,false,0⟩
def ix (op a b n:Int):Ix:=⟨op,a,b,0,n,txt0,0⟩
def Mk.lay (m:Mk)(x:Ix):Mk:={ m with ins:=m.ins++[x] }
def toHere (p:Nat)(l:List Ix):List Ix:=l.modify p fun x=>⟨x.op,x.a,x.b,x.c,x.n,x.s,(l.length:Int)⟩
def Mk.here (m:Mk)(p:Nat):Mk:={ m with ins:=toHere p m.ins }
def Mk.reg (m:Mk):Mk:={ m with next:=m.next+1,regs:=max m.regs (m.next+1),over:=m.over || decide (256<m.next+1) }
open Classical in
noncomputable def Mk.put (m:Mk)(v:Val)(r:Int):Mk:={ m with known:=fun x=>if x=v then some r else m.known x,puts:=m.puts+1 }
def Mk.back (m:Mk)(k:Val→Option Int):Mk:={ m with known:=k }
def Mk.free (m:Mk)(sh:Bool)(r:Int):Mk:=if sh then m else { m with next:=r }
def Val.ix (v:Val)(r:Int):Ix:=⟨v.op,r,v.b,v.c,v.n,v.s,0⟩
abbrev Ob:=Int × Mk × List Nat
noncomputable def zak (sh:Bool)(v:Val)(m:Mk)(u:List Nat):Ob:=
 match (if sh then m.known v else none) with
 |some r=>(r,m,u)
 |none=>(m.next,(m.reg.lay (v.ix m.next)).put v m.next,if v.op=2 then u++[m.ins.length] else u)
def zah (op:Int):Int:=if op≤14 then op - 2 else op - 4
def into (sh:Bool)(out:Int)(o:Ob):Mk × List Nat:=((o.2.1.lay (ix 18 out o.1 0)).free sh (out+1),o.2.2)
def zdi (ob:T→Mk→List Nat→Ob)(sh:Bool)(t:T)(m:Mk)(u:List Nat):Mk × List Nat:=
 let a:=into sh m.next (ob (t.kid 0) m.reg u)
 let b:=a.1.lay (ix 19 0 m.next 0)
 let c:=into sh m.next (ob (t.kid 1) b a.2)
 ((c.1.back b.known).here a.1.ins.length,c.2)
def zec (ob:T→Mk→List Nat→Ob)(sh:Bool)(t:T)(m:Mk)(u:List Nat):Mk × List Nat:=
 let a:=into sh m.next (ob (t.kid 0) m.reg u)
 let b:=((a.1.lay (ix 19 0 m.next 0)).lay (ix 20 0 0 0)).here a.1.ins.length
 let c:=into sh m.next (ob (t.kid 1) b a.2)
 ((c.1.back b.known).here (a.1.ins.length+1),c.2)
def zed (ob:T→Mk→List Nat→Ob)(sh:Bool)(t:T)(m:Mk)(u:List Nat):Mk × List Nat:=
 let a:=into sh m.next (ob (t.kid 0) m.reg u)
 let b:=a.1.lay (ix 19 0 m.next 0)
 let c:=into sh m.next (ob (t.kid 1) b a.2)
 let e:=((c.1.back b.known).lay (ix 20 0 0 0)).here a.1.ins.length
 let f:=into sh m.next (ob (t.kid 2) e c.2)
 ((f.1.back e.known).here c.1.ins.length,f.2)
def chosen (m:Mk)(sh:Bool)(r:Mk × List Nat):Ob:=(m.next,r.1.free sh (m.next+1),r.2)
noncomputable def zen (ob:T→Mk→List Nat→Ob)(sh:Bool)(t:T)(m:Mk)(u:List Nat):Ob:=
 let a:=ob (t.kid 0) m u
 let b:Ob:=if 1<t.ks.length then ob (t.kid 1) a.2.1 a.2.2 else(0,a.2.1,a.2.2)
 if sh=true then zak sh ⟨zah t.op,0,txt0,a.1,b.1⟩ b.2.1 b.2.2
 else(a.1,(b.2.1.lay ⟨zah t.op,a.1,a.1,b.1,0,txt0,0⟩).free sh (m.next+1),b.2.2)
noncomputable def obs (sh:Bool):Nat→T→Mk→List Nat→Ob
 |0,_,m,u=>(0,m,u)
 |d+1,t,m,u=>
  if t.op=1∨t.op=2∨t.op=3 then zak sh ⟨1,t.n,txt0,0,0⟩ m u
  else if t.op=4 then zak sh ⟨2,t.n,t.s,0,0⟩ m u
  else if t.op=5 then zak sh ⟨3,t.n,txt0,0,0⟩ m u
  else if t.op=15 then chosen m sh (zdi (obs sh d) sh t m u)
  else if t.op=16 then chosen m sh (zec (obs sh d) sh t m u)
  else if t.op=22 then chosen m sh (zed (obs sh d) sh t m u)
  else zen (obs sh d) sh t m u
section
variable {sh:Bool}{d:Nat}{t:T}{m:Mk}{u:List Nat}
theorem zgt (h:t.op=1∨t.op=2∨t.op=3):obs sh (d+1) t m u=zak sh ⟨1,t.n,txt0,0,0⟩ m u:=by rw[obs]; exact if_pos h
theorem zio (h:t.op=4):obs sh (d+1) t m u=zak sh ⟨2,t.n,t.s,0,0⟩ m u:=by rw[obs]; exact(if_neg (by omega)).trans (if_pos h)
theorem zjv (h:t.op=5):obs sh (d+1) t m u=zak sh ⟨3,t.n,txt0,0,0⟩ m u:=by rw[obs]; exact(if_neg (by omega)).trans ((if_neg (by omega)).trans (if_pos h))
theorem zjw (h:t.op=15):obs sh (d+1) t m u=chosen m sh (zdi (obs sh d) sh t m u):=by rw[obs]; exact(if_neg (by omega)).trans ((if_neg (by omega)).trans ((if_neg (by omega)).trans (if_pos h)))
theorem zly (h:t.op=16):obs sh (d+1) t m u=chosen m sh (zec (obs sh d) sh t m u):=by rw[obs]; exact(if_neg (by omega)).trans ((if_neg (by omega)).trans ((if_neg (by omega)).trans ((if_neg (by omega)).trans (if_pos h))))
theorem zlz (h:t.op=22):obs sh (d+1) t m u=chosen m sh (zed (obs sh d) sh t m u):=by rw[obs]; exact(if_neg (by omega)).trans ((if_neg (by omega)).trans ((if_neg (by omega)).trans ((if_neg (by omega)).trans ((if_neg (by omega)).trans (if_pos h)))))
theorem zfs (h:6≤t.op∧t.op≤21∧t.op≠15∧t.op≠16):obs sh (d+1) t m u=zen (obs sh d) sh t m u:=by rw[obs]; exact(if_neg (by omega)).trans ((if_neg (by omega)).trans ((if_neg (by omega)).trans ((if_neg (by omega)).trans ((if_neg (by omega)).trans (if_neg (by omega))))))
end
def zbs (t:T):Bool:=t.nodes.any fun x=>x.1 == 4
def zax (t:T):Bool:=if t.op=29∨t.op=30∨t.op=31 then true else if t.op=26∨t.op=28 then zbs (t.kid 0) else false
mutual
def zdl:T→Nat
 | .mk o n s ks=>(if zax (.mk o n s ks) then 1 else 0)+zbk ks
def zbk:List T→Nat
 | []=>0
 |k::r=>zdl k+zbk r
end
def either (con:T→Mk→Mk)(r:Int)(t:T)(m:Mk):Mk:=
 let a:=m.lay (ix 19 0 r 0)
 let b:=(con (t.kid 1) a).back a.known
 let c:=(b.lay (ix 20 0 0 0)).here m.ins.length
 ((con (t.kid 2) c).back c.known).here b.ins.length
def Mk.call (m:Mk)(t:T):Mk:=
 { m with ins:=m.ins++[ix 29 0 0 m.ws.length],jobs:=m.jobs++[(m.ws.length,t)],ws:=m.ws++[⟨0,0,txt0,0,0⟩] }
noncomputable def con (sh:Bool):Nat→T→Mk→Mk
 |0,_,m=>m
 |d+1,t,m=>
  if zax t=true then m.call t
  else
   (if t.op=24 then m.lay ⟨27,0,0,0,0,t.s,0⟩
    else if t.op=25 then con sh d (t.kid 0) (m.lay (ix 24 0 0 0))
    else if t.op=27 then con sh d (t.kid 1) ((con sh d (t.kid 0) (m.reg.lay (ix 25 m.next 0 0))).lay (ix 26 0 m.next 0))
    else if t.op=26 then
     let o:=obs sh d (t.kid 0) m []
     con sh d (t.kid 1) (o.2.1.lay (ix 23 0 o.1 0))
    else if t.op=28 then
     let o:=obs sh d (t.kid 0) m []
     either (con sh d) o.1 t o.2.1
    else m).free sh m.next
def Mk.fin (m:Mk):Mk:=m.lay (ix 30 0 0 0)
def Mk.setW (m:Mk)(j:Nat)(f:Wt→Wt):Mk:={ m with ws:=m.ws.modify j f }
def Mk.fresh (m:Mk):Mk:={ m with next:=0,known:=zhf }
def zck (n:Int):Int:=if 73048<n then 0 else n
noncomputable def pick (sh:Bool)(j:Nat)(t:T)(m:Mk):Mk:=
 let a:=((m.lay (ix 21 0 0 t.n)).lay (ix 28 0 0 j)).fin
 let b:=((con sh 200 (t.kid 0) (a.lay (ix 21 0 0 t.n))).fin.here m.ins.length).here a.ins.length
 let c:=(con sh 200 (t.kid 1) b.fresh).fin
 c.setW j fun _=>⟨m.ins.length,zck (t.n+1),t.s,a.ins.length,b.ins.length⟩
def hereAll (m:Mk)(l:List Nat):Mk:=l.foldl Mk.here m
def again (j:Nat)(m:Mk)(l:List Nat):Mk:=((hereAll (m.setW j fun w=>{ w with day:=zck w.day }).fin l).lay (ix 28 0 0 j)).fin
noncomputable def wait (sh:Bool)(j:Nat)(t:T)(m0:Mk):Mk:=
 let m:=(m0.setW j fun w=>{ w with entry:=m0.ins.length }).fresh
 if t.op=29 then again j (con sh 200 (t.kid 0) ((m.setW j fun w=>{ w with day:=t.n }).lay (ix 22 0 0 t.n))) [m.ins.length]
 else if t.op=30 then
  let o:=obs sh 200 (t.kid 0) ((m.setW j fun w=>{ w with day:=t.n+1 }).lay (ix 21 0 0 t.n)) []
  again j ((con sh 200 (t.kid 1) (o.2.1.lay (ix 19 0 o.1 0))).here m.ins.length) (o.2.2++[o.2.1.ins.length])
 else if t.op=26 then
  let o:=obs sh 200 (t.kid 0) m []
  again j (con sh 200 (t.kid 1) (o.2.1.lay (ix 23 0 o.1 0))) o.2.2
 else if t.op=28 then
  let o:=obs sh 200 (t.kid 0) m []
  again j (either (con sh 200) o.1 t o.2.1) o.2.2
 else if t.op=31 then pick sh j t m
 else again j m []
noncomputable def run (sh:Bool):Nat→Mk→Mk
 |0,m=>m
 |k+1,m=>match m.jobs with
  | []=>m
  |(j,t)::r=>run sh k (wait sh j t { m with jobs:=r })
noncomputable def make (sh:Bool)(t:T):Mk:=run sh t.size (con sh 200 t mk0).fin
end Gf
end
section
open Go.RowKit
namespace Gf
open Co
theorem zgd (sh:Bool)(out:Int)(o:Ob):(into sh out o).1.puts=o.2.1.puts:=by
 unfold into Mk.free
 cases sh<;>rfl
theorem zhe (sh:Bool)(v:Val)(m:Mk)(u:List Nat):m.puts≤(zak sh v m u).2.1.puts:=by
 unfold zak
 split
 ·exact Nat.le_refl _
 ·exact Nat.le_succ _
theorem zho (m:Mk)(sh:Bool)(r:Int):(m.free sh r).puts=m.puts:=by unfold Mk.free; cases sh<;>rfl
theorem zfw (sh:Bool)(d:Nat):∀(t:T) (m:Mk) (u:List Nat),m.puts≤(obs sh d t m u).2.1.puts:=by
 induction d with
 |zero=>intro t m u; exact Nat.le_refl _
 |succ d ih=>
  intro t m u
  rw[obs]
  split
  ·exact zhe _ _ _ _
  split
  ·exact zhe _ _ _ _
  split
  ·exact zhe _ _ _ _
  have hi:∀(t:T) (m:Mk) (u:List Nat) (out:Int),m.puts≤(into sh out (obs sh d t m u)).1.puts:=fun t m u out=>by rw[zgd]; exact ih t m u
  split
  ·unfold chosen zdi
   simp only
   rw[zho]
   have h1:=hi (t.kid 0) m.reg u m.next
   generalize into sh m.next (obs sh d (t.kid 0) m.reg u)=A at *
   exact Nat.le_trans h1 (hi (t.kid 1) (A.1.lay (ix 19 0 m.next 0)) A.2 m.next)
  split
  ·unfold chosen zec
   simp only
   rw[zho]
   have h1:=hi (t.kid 0) m.reg u m.next
   generalize into sh m.next (obs sh d (t.kid 0) m.reg u)=A at *
   exact Nat.le_trans h1 (hi (t.kid 1) (((A.1.lay (ix 19 0 m.next 0)).lay (ix 20 0 0 0)).here A.1.ins.length) A.2 m.next)
  split
  ·unfold chosen zed
   simp only
   rw[zho]
   have h1:=hi (t.kid 0) m.reg u m.next
   generalize into sh m.next (obs sh d (t.kid 0) m.reg u)=A at *
   have h2:=hi (t.kid 1) (A.1.lay (ix 19 0 m.next 0)) A.2 m.next
   generalize into sh m.next (obs sh d (t.kid 1) (A.1.lay (ix 19 0 m.next 0)) A.2)=C at *
   exact Nat.le_trans (Nat.le_trans h1 h2) (hi (t.kid 2) (((C.1.back (A.1.lay (ix 19 0 m.next 0)).known).lay (ix 20 0 0 0)).here A.1.ins.length) C.2 m.next)
  ·unfold zen
   simp only
   have h1:=ih (t.kid 0) m u
   have h2:∀ b:Ob,b=(if 1<t.ks.length then obs sh d (t.kid 1) (obs sh d (t.kid 0) m u).2.1 (obs sh d (t.kid 0) m u).2.2 else(0,(obs sh d (t.kid 0) m u).2.1,(obs sh d (t.kid 0) m u).2.2))→m.puts≤b.2.1.puts:=by
    rintro b rfl
    split
    ·exact Nat.le_trans h1 (ih _ _ _)
    ·exact h1
   split
   ·exact Nat.le_trans (h2 _ rfl) (zhe _ _ _ _)
   ·rw[zho]; exact h2 _ rfl
theorem zca (sh:Bool)(out:Int)(o:Ob):(into sh out o).1.ins.length=o.2.1.ins.length+1:=by
 unfold into Mk.free Mk.lay
 cases sh<;>simp
theorem zfi (sh:Bool)(v:Val)(m:Mk)(u:List Nat):m.ins.length≤(zak sh v m u).2.1.ins.length:=by
 unfold zak
 split
 ·exact Nat.le_refl _
 ·show m.ins.length≤(m.ins++[_]).length; simp
theorem zae (m:Mk)(x:Gen.Ix):(m.lay x).ins.length=m.ins.length+1:=by simp[Mk.lay]
theorem zaf (m:Mk)(p:Nat):(m.here p).ins.length=m.ins.length:=by simp[Mk.here,toHere]
theorem zai (m:Mk)(k:Val→Option Int):(m.back k).ins.length=m.ins.length:=rfl
theorem zfh (m:Mk):m.reg.ins.length=m.ins.length:=rfl
theorem zbc (m:Mk)(sh:Bool)(r:Int):(m.free sh r).ins.length=m.ins.length:=by unfold Mk.free; cases sh<;>rfl
theorem zap (sh:Bool)(d:Nat):∀(t:T) (m:Mk) (u:List Nat),m.ins.length≤(obs sh d t m u).2.1.ins.length:=by
 induction d with
 |zero=>intro t m u; exact Nat.le_refl _
 |succ d ih=>
  intro t m u
  rw[obs]
  split
  ·exact zfi _ _ _ _
  split
  ·exact zfi _ _ _ _
  split
  ·exact zfi _ _ _ _
  have hi:∀(t:T) (m:Mk) (u:List Nat) (out:Int),m.ins.length≤(into sh out (obs sh d t m u)).1.ins.length:=fun t m u out=>by rw[zca]; exact Nat.le_succ_of_le (ih t m u)
  split
  ·unfold chosen zdi
   simp only
   simp only[zbc,zaf,zai]
   have h1:=hi (t.kid 0) m.reg u m.next
   rw[zfh] at h1
   generalize into sh m.next (obs sh d (t.kid 0) m.reg u)=A at *
   have h2:=hi (t.kid 1) (A.1.lay (ix 19 0 m.next 0)) A.2 m.next
   rw[zae] at h2
   omega
  split
  ·unfold chosen zec
   simp only
   simp only[zbc,zaf,zai]
   have h1:=hi (t.kid 0) m.reg u m.next
   rw[zfh] at h1
   generalize into sh m.next (obs sh d (t.kid 0) m.reg u)=A at *
   have h2:=hi (t.kid 1) (((A.1.lay (ix 19 0 m.next 0)).lay (ix 20 0 0 0)).here A.1.ins.length) A.2 m.next
   rw[zaf,zae,zae] at h2
   omega
  split
  ·unfold chosen zed
   simp only
   simp only[zbc,zaf,zai]
   have h1:=hi (t.kid 0) m.reg u m.next
   rw[zfh] at h1
   generalize into sh m.next (obs sh d (t.kid 0) m.reg u)=A at *
   have h2:=hi (t.kid 1) (A.1.lay (ix 19 0 m.next 0)) A.2 m.next
   rw[zae] at h2
   generalize into sh m.next (obs sh d (t.kid 1) (A.1.lay (ix 19 0 m.next 0)) A.2)=C at *
   have h3:=hi (t.kid 2) (((C.1.back (A.1.lay (ix 19 0 m.next 0)).known).lay (ix 20 0 0 0)).here A.1.ins.length) C.2 m.next
   rw[zaf,zae,zai] at h3
   omega
  ·unfold zen
   simp only
   have h1:=ih (t.kid 0) m u
   have h2:∀ b:Ob,b=(if 1<t.ks.length then obs sh d (t.kid 1) (obs sh d (t.kid 0) m u).2.1 (obs sh d (t.kid 0) m u).2.2 else(0,(obs sh d (t.kid 0) m u).2.1,(obs sh d (t.kid 0) m u).2.2))→m.ins.length≤b.2.1.ins.length:=by
    rintro b rfl
    split
    ·exact Nat.le_trans h1 (ih _ _ _)
    ·exact h1
   split
   ·exact Nat.le_trans (h2 _ rfl) (zfi _ _ _ _)
   ·rw[zbc,zae]; exact Nat.le_succ_of_le (h2 _ rfl)
theorem zdq {ob:T→Mk→List Nat→Ob}{sh:Bool}{t a:T}{m:Mk}{u:List Nat}{o:Ob}(hl:¬1<t.ks.length)(hk:t.kid 0=a)(ho:ob a m u=o):
  zen ob sh t m u=if sh=true then zak sh ⟨zah t.op,0,txt0,o.1,0⟩ o.2.1 o.2.2 else(o.1,(o.2.1.lay ⟨zah t.op,o.1,o.1,0,0,txt0,0⟩).free sh (m.next+1),o.2.2):=by
 unfold zen
 simp only[hk,ho,if_neg hl]
theorem zdp {ob:T→Mk→List Nat→Ob}{sh:Bool}{t a b:T}{m:Mk}{u:List Nat}{o p:Ob}(hl:1<t.ks.length)(hk:t.kid 0=a)(ho:ob a m u=o)(hk2:t.kid 1=b)(hp:ob b o.2.1 o.2.2=p):
  zen ob sh t m u=if sh=true then zak sh ⟨zah t.op,0,txt0,o.1,p.1⟩ p.2.1 p.2.2 else(o.1,(p.2.1.lay ⟨zah t.op,o.1,o.1,p.1,0,txt0,0⟩).free sh (m.next+1),p.2.2):=by
 unfold zen
 simp only[hk,ho,if_pos hl,hk2,hp]
end Gf
end
section
open Go.RowKit
open Rw
set_option maxRecDepth 100000
namespace Gf
open Co
theorem zgo {op n:Int}{s:ByteArray}{ks:List T}:zbs (.mk op n s ks)=(op == 4 || ks.any zbs):=by
 have h:∀ l:List T,(zcw l).any (fun x=>x.1 == 4)=l.any zbs:=by
  intro l
  induction l with
  |nil=>rfl
  |cons a r ih=>rw[zcw,List.any_append,ih,List.any_cons]; rfl
 unfold zbs
 rw[T.nodes,List.any_cons,h]
 rfl
theorem zrw {α:Type}(f:α→Bool)(l:List α)(i:Nat)(a:α)(h:l[i]? = some a):(l.take (i+1)).any f=((l.take i).any f || f a):=by
 rw[List.take_succ_eq_append_getElem (List.getElem?_eq_some_iff.1 h).1,List.any_append]
 have:=(List.getElem?_eq_some_iff.1 h).2
 simp[this]
theorem zbq {B:Nat}{W:World}{t:T}{q:Option Addr}{i:Nat}{k:T}(h:∀ i k,t.ks[i]? = some k→∃ vk,RowAt B W q i vk∧CoreAt B W k vk)(hk:t.ks[i]? = some k):
  ∃ b off kop kn kst pk kl ck,q=some ⟨b,off,none⟩∧b<B∧CoreAt B W k (.agg #[.int .i64 kop,.int .i64 kn,.string kst,.slice pk kl ck]) ∧
   W.cell? ⟨b,off+i * 4,none⟩=some (.int .i64 kop)∧W.cell? ⟨b,off+i * 4+1,none⟩=some (.int .i64 kn)∧W.cell? ⟨b,off+i * 4+2,none⟩=some (.string kst)∧W.cell? ⟨b,off+i * 4+3,none⟩=some (.slice pk kl ck):=by
 obtain⟨vk,⟨b,off,x,y,z,u,e,hl,hv,h0,h1,h2,h3⟩,hc⟩:=h i k hk
 obtain⟨pk,ck,e2, -⟩:=hc.open
 rw[e2] at hv
 simp at hv
 obtain⟨rfl,rfl,rfl,rfl⟩:=hv
 exact⟨b,off,_,_,_,_,_,_,e,hl,e2▸hc,h0,h1,h2,h3⟩
theorem zaw {B:Nat}{W W':World}{t:T}{q:Option Addr}(h:∀ i k,t.ks[i]? = some k→∃ vk,RowAt B W q i vk∧CoreAt B W k vk)(b:Below B W W'):∀ i k,t.ks[i]? = some k→∃ vk,RowAt B W' q i vk∧CoreAt B W' k vk:=by
 intro i k hk
 obtain⟨vk,h1,h2⟩:=h i k hk
 exact⟨vk,h1.kept b (Nat.le_refl _),h2.kept b (Nat.le_refl _)⟩
set_option maxHeartbeats 4000000 in
theorem zzx (t:T):∀(B:Nat) (v:Value) (w:World),CoreAt B w t v→B≤w.heap.size→Calls Tryz.prog 101 #[v] w (zaj (.bool (zbs t)) w):=by
 induction t using T.ind with|h op n s ks ih=>?_
 intro B v w hv hB
 obtain⟨q,c,rfl,hc,ho,hn,hs,hk⟩:=hv.open
 have HK:=hid' (show ∀ i k,(T.mk op n s ks).ks[i]? = some k→∃ vk,RowAt B w q i vk∧CoreAt B w k vk from hk)
 simp only[T.op,T.n,T.s,T.ks] at hc ho hn hs ⊢
 have HIH:=hid' ih
 have HC:=hid' hc
 have HBB:=hid' hB
 have B0:=(Below.refl w.heap.size w).alloc (Nat.le_refl _) (.cells #[.int .i64 op,.int .i64 n,.string s,.slice q ks.length c] 24)
 have HCB:=hid' (heap_alloc_new w (.cells #[.int .i64 op,.int .i64 n,.string s,.slice q ks.length c] 24))
 have HB0:=hid' B0
 have HF:=hid' (zgo (op:=op) (n:=n) (s:=s) (ks:=ks))
 have HMX:=hid' (show ks.length≤9223372036854775806∨True from .inr trivial)
 clear B0 hv hB hk hc ih ho hn hs
 go_enter Tryz.func101,Tryz.ntmps101
 go_upto_region 1 with(fail)
 generalize World.alloc _ _=w1 at *
 have c0:=zaa HCB.out 0 _ rfl
 have c3:=zaa HCB.out 3 _ rfl
 by_cases h4:op=4
 ·subst h4
  go_wp2_with fail
  go_ret
  exact⟨by rw[HF.out]; rfl,HB0.out⟩
 ·have g4:((op:Int) == 4)=false:=by simpa using h4
  have HG4:=hid' g4
  clear h4
  go_wp2_with fail
  go_loopw [11] (fun iv wr=>∃(i:Nat),iv=.int .i64 (i:Int)∧i≤ks.length∧Hid (Below w.heap.size w wr∧Below w1.heap.size w1 wr∧(ks.take i).any zbs=false)) (fun iv _=>ks.length - (intOf iv).toNat)
  case atStart=>exact⟨0,rfl,Nat.zero_le _,hid' ⟨HB0.out,Below.refl _ _,rfl⟩⟩
  case round=>
   obtain⟨i,rfl,hi,HJ⟩:=hrel
   by_cases hik:i<ks.length
   ·obtain⟨k,hkk⟩:∃ k,ks[i]? = some k:=⟨_,List.getElem?_eq_getElem hik⟩
    obtain⟨b,off,kop,kn,kst,pk,kl,ck,rfl,hlb,hvk,r0,r1,r2,r3⟩:=zbq (zaw HK.out (HJ.out.1.mono HBB.out)) hkk
    have HKV:=hid' hvk
    have hle:=HC.out
    have g0:decide ((i:Int)<(ks.length:Int))=true:=by simp; omega
    have j1:(0:Int)≤(i:Int):=by omega
    have j2:(i:Int)<(ks.length:Int):=by omega
    have hiw:IntKind.i64.wrap ((i:Int)+1)=(i:Int)+1:=IntWalk.i64_in _ (by have:=hle.2; unfold maxLen at this; omega)
    have HKK:=hid' hkk
    have ba:=(Below.refl wr.heap.size wr).alloc (Nat.le_refl _) (.cells #[.int .i64 kop,.int .i64 kn,.string kst,.slice pk kl ck] 24)
    have nn:=heap_alloc_new wr (.cells #[.int .i64 kop,.int .i64 kn,.string kst,.slice pk kl ck] 24)
    have HBA:=hid' ba
    have HJA:=hid' (And.intro (Below.more HJ.out.1 ba) (Below.more HJ.out.2.1 ba))
    have HNN:=hid' nn
    clear hkk hvk hle ba nn
    go_upto_region 6 with(fail)
    clear r0 r1 r2 r3
    generalize World.alloc wr _=w2 at *
    have k0:=zaa HNN.out 0 _ rfl
    have k1:=zaa HNN.out 1 _ rfl
    have k2:=zaa HNN.out 2 _ rfl
    have k3:=zaa HNN.out 3 _ rfl
    have HCL:=hid' (HIH.out k (List.mem_of_getElem? HKK.out) B _ w2 (HKV.out.kept (HBA.out.mono (Nat.le_trans HBB.out HJ.out.1.size)) (Nat.le_refl _)) (Nat.le_trans HBB.out HJA.out.1.size))
    go_wp2_with fail
    refine HCL.out.mono ?_
    rintro e w3 ⟨rfl,b3⟩
    have HJ3:=hid' (And.intro (Below.more HJA.out.1 b3) (Below.more HJA.out.2 b3))
    have c0:=zaa (zad HJ3.out.2 HCB.out) 0 _ rfl
    have c3:=zaa (zad HJ3.out.2 HCB.out) 3 _ rfl
    have HT:=hid' (zrw zbs ks i k HKK.out)
    clear b3 k0 k1 k2 k3
    obtain⟨f,hf⟩:∃ f,Hid (zbs k=f):=⟨_,hid' rfl⟩
    rw[hf.out]
    cases f with
    |true=>
     go_wp2_with fail
     go_ret
     refine⟨?_,HJ3.out.1⟩
     rw[HF.out]
     have:ks.any zbs=true:=List.any_eq_true.2 ⟨k,List.mem_of_getElem? HKK.out,hf.out⟩
     rw[this,Bool.or_true]
     rfl
    |false=>
     go_wp2_with fail
     go_roundw
     case rel=>exact⟨i+1,by simp,by omega,hid' ⟨HJ3.out.1,HJ3.out.2,by rw[HT.out,HJ.out.2.2,hf.out]; rfl⟩⟩
     case measure=>simp[intOf]; omega
   ·obtain rfl:i=ks.length:=by omega
    go_wp2_with fail
    go_ret
    refine⟨?_,HJ.out.1⟩
    have:=HJ.out.2.2
    rw[List.take_length] at this
    rw[HF.out,this,HG4.out]
    rfl
theorem ztd {t:T}{i:Nat}{k:T}(h:t.ks[i]? = some k):t.kid i=k:=by unfold T.kid; rw[h]; rfl
set_option maxHeartbeats 4000000 in
theorem zqo (t:T)(B:Nat)(v:Value)(w:World)(hv:CoreAt B w t v)(hB:B≤w.heap.size)(hx:t.op=26∨t.op=28→0<t.ks.length):Calls Tryz.prog 49 #[v] w (zaj (.bool (zax t)) w):=by
 obtain⟨q,c,rfl,hc,ho,hn,hs,hk⟩:=hv.open
 obtain⟨op,n,s,ks⟩:=t
 have HK:=hid' hk
 simp only[T.op,T.n,T.s,T.ks] at hc ho hn hs hx ⊢
 have B0:=(Below.refl w.heap.size w).alloc (Nat.le_refl _) (.cells #[.int .i64 op,.int .i64 n,.string s,.slice q ks.length c] 24)
 have HCB:=hid' (heap_alloc_new w (.cells #[.int .i64 op,.int .i64 n,.string s,.slice q ks.length c] 24))
 have HB0:=hid' B0
 have HX:=hid' hx
 have HBB:=hid' hB
 clear B0 hv hB hk hc ho hn hs hx
 go_enter Tryz.func49,Tryz.ntmps49
 go_upto_region 1 with(fail)
 generalize World.alloc _ _=w1 at *
 have c0:=zaa HCB.out 0 _ rfl
 have c3:=zaa HCB.out 3 _ rfl
 by_cases h1:op=29∨op=30∨op=31
 ·have HE:=hid' (show zax (T.mk op n s ks)=true from if_pos h1)
  rcases h1 with rfl|rfl|rfl
  all_goals go_wp2_with fail
  all_goals go_ret
  all_goals exact⟨by rw[HE.out]; rfl,HB0.out⟩
 ·have g29:((op:Int) == 29)=false:=by simpa using fun e=>h1 (.inl e)
  have g30:((op:Int) == 30)=false:=by simpa using fun e=>h1 (.inr (.inl e))
  have g31:((op:Int) == 31)=false:=by simpa using fun e=>h1 (.inr (.inr e))
  by_cases h2:op=26∨op=28
  ·have HE:=hid' (show zax (T.mk op n s ks)=zbs ((T.mk op n s ks).kid 0) from(if_neg h1).trans (if_pos h2))
   have hl:=HX.out h2
   obtain⟨k,hkk⟩:∃ k,(T.mk op n s ks).ks[0]? = some k:=⟨_,List.getElem?_eq_getElem hl⟩
   obtain⟨b,off,kop,kn,kst,pk,kl,ck,rfl,hlb,hvk,r0,r1,r2,r3⟩:=zbq (zaw HK.out (HB0.out.mono HBB.out)) hkk
   have HCL:=hid' (zzx k B _ w1 hvk (Nat.le_trans HBB.out HB0.out.size))
   have HKO:=hid' (ztd hkk)
   have j2:(0:Int)<(ks.length:Int):=by omega
   simp only[Nat.zero_mul,Nat.add_zero] at r0 r1 r2 r3
   clear hl hkk hvk h1
   rcases h2 with rfl|rfl
   all_goals go_wp2_with fail
   all_goals refine HCL.out.mono ?_
   all_goals rintro e w3 ⟨rfl,b3⟩
   all_goals have HB3:=hid' (Below.more HB0.out b3)
   all_goals clear b3
   all_goals go_wp2_with fail
   all_goals go_ret
   all_goals exact⟨by rw[HE.out,HKO.out]; rfl,HB3.out⟩
  ·have HE:=hid' (show zax (T.mk op n s ks)=false from(if_neg h1).trans (if_neg h2))
   have g26:((op:Int) == 26)=false:=by simpa using fun e=>h2 (.inl e)
   have g28:((op:Int) == 28)=false:=by simpa using fun e=>h2 (.inr e)
   clear h1 h2
   go_wp2_with fail
   go_ret
   exact⟨by rw[HE.out]; rfl,HB0.out⟩
theorem zww (ks:List T)(i:Nat)(k:T)(h:ks[i]? = some k):zbk (ks.take (i+1))=zbk (ks.take i)+zdl k:=by
 have hap:∀ a b:List T,zbk (a++b)=zbk a+zbk b:=by
  intro a b
  induction a with
  |nil=>simp[zbk]
  |cons x r ih=>rw[List.cons_append,zbk,zbk,ih]; omega
 rw[List.take_succ_eq_append_getElem (List.getElem?_eq_some_iff.1 h).1,hap]
 have:=(List.getElem?_eq_some_iff.1 h).2
 simp[this,zbk]
theorem zyy (t:T):zdl t≤t.size:=by
 induction t using T.ind with|h op n s ks ih=>?_
 have hl:∀ l:List T,(∀ k∈l,zdl k≤k.size)→zbk l≤sizes l:=by
  intro l
  induction l with
  |nil=>intro _; simp[zbk,sizes]
  |cons a r ih2=>
   intro h
   have:=h a (by simp)
   have:=ih2 fun k hk=>h k (by simp[hk])
   rw[zbk,sizes]; omega
 have:=hl ks ih
 rw[zdl,T.size]
 split<;>omega
set_option maxHeartbeats 4000000 in
theorem qcr (t:T):∀(B:Nat) (v:Value) (w:World),CoreAt B w t v→B≤w.heap.size→t.letter≠0→t.size≤2000000→Calls Tryz.prog 20 #[v] w (zaj (.int .i64 (zdl t)) w):=by
 induction t using T.ind with|h op n s ks ih=>?_
 intro B v w hv hB hx hsz
 have hxk:(T.mk op n s ks).op=26∨(T.mk op n s ks).op=28→0<(T.mk op n s ks).ks.length:=by
  rintro (rfl|rfl)
  ·obtain⟨hw, -⟩:=letter_inv rfl hx (by decide)
   have hw':some ([110,99],(99:UInt8))=some (ks.map T.letter,_):=want_26.symm.trans hw
   simp only[Option.some.injEq,Prod.mk.injEq] at hw'
   have:=congrArg List.length hw'.1
   simp at this
   show 0<ks.length
   omega
  ·obtain⟨hw, -⟩:=letter_inv rfl hx (by decide)
   have hw':some ([98,99,99],(99:UInt8))=some (ks.map T.letter,_):=want_28.symm.trans hw
   simp only[Option.some.injEq,Prod.mk.injEq] at hw'
   have:=congrArg List.length hw'.1
   simp at this
   show 0<ks.length
   omega
 have HW:=hid' (fun (W:World) (b:Below w.heap.size w W)=>zqo (T.mk op n s ks) B v W (hv.kept (b.mono hB) (Nat.le_refl _)) (Nat.le_trans hB b.size) hxk)
 obtain⟨q,c,rfl,hc,ho,hn,hs,hk⟩:=hv.open
 have HK:=hid' (show ∀ i k,(T.mk op n s ks).ks[i]? = some k→∃ vk,RowAt B w q i vk∧CoreAt B w k vk from hk)
 simp only[T.op,T.n,T.s,T.ks] at hc ho hn hs ⊢
 simp only[T.op,T.n,T.s,T.ks] at HW
 have HIH:=hid' (fun k hk B v w h1 h2=>ih k hk B v w h1 h2 (kids_ne hx k hk) (by have:=sizes_mem hk; rw[T.size] at hsz; omega))
 have HC:=hid' hc
 have HBB:=hid' hB
 have HSZ:=hid' hsz
 have B0:=(Below.refl w.heap.size w).alloc (Nat.le_refl _) (.cells #[.int .i64 op,.int .i64 n,.string s,.slice q ks.length c] 24)
 have HCB:=hid' (heap_alloc_new w (.cells #[.int .i64 op,.int .i64 n,.string s,.slice q ks.length c] 24))
 have HB0:=hid' B0
 clear B0 hv hB hk hc ih ho hn hs hsz hxk hx
 go_enter Tryz.func20,Tryz.ntmps20
 go_upto_region 2 with(fail)
 generalize World.alloc _ _=w1 at *
 obtain⟨c0,c1,c2,c3⟩:(w1.cell? ⟨w.heap.size,0,none⟩=some (.int .i64 op)∧w1.cell? ⟨w.heap.size,1,none⟩=some (.int .i64 n)∧w1.cell? ⟨w.heap.size,2,none⟩=some (.string s)∧w1.cell? ⟨w.heap.size,3,none⟩=some (.slice q ks.length c)):=⟨zaa HCB.out 0 _ rfl,zaa HCB.out 1 _ rfl,zaa HCB.out 2 _ rfl,zaa HCB.out 3 _ rfl⟩
 obtain⟨wt,hwt⟩:∃ f,Hid (zax (T.mk op n s ks)=f):=⟨_,hid' rfl⟩
 have HM:=hid' (show zdl (T.mk op n s ks)=(if wt=true then 1 else 0)+zbk ks by rw[zdl,hwt.out])
 have HW1:=hid' (HW.out w1 HB0.out)
 rw[hwt.out] at HW1
 clear HW
 go_wp2_with fail
 refine HW1.out.mono ?_
 rintro e w2 ⟨rfl,b2⟩
 have HB2:=hid' (Below.more HB0.out b2)
 have HC2:=hid' (zad b2 HCB.out)
 clear b2 c0 c1 c2 c3 HW1
 have c3:=zaa HC2.out 3 _ rfl
 go_upto_if 7 with(fail)
 go_cut [3] (fun v wx=>v=.int .i64 (if wt=true then 1 else 0)∧w2=wx)
 case first=>
  cases wt
  all_goals go_wp2_with fail
  all_goals go_meet
  all_goals exact⟨rfl,rfl⟩
 case rest=>
 obtain⟨rfl,rfl⟩:=hcut
 obtain⟨z,hz⟩:∃ z:Int,Hid ((if wt=true then 1 else 0)=z∧0≤z∧z≤1):=⟨_,hid' ⟨rfl,by split<;>omega,by split<;>omega⟩⟩
 rw[hz.out.1]
 go_wp2_with fail
 go_loopw [3,13] (fun nv iv wr=>∃(i:Nat),iv=.int .i64 (i:Int)∧i≤ks.length∧nv=.int .i64 (z+zbk (ks.take i))∧Hid (Below w.heap.size w wr∧Below w2.heap.size w2 wr)) (fun _ iv _=>ks.length - (intOf iv).toNat)
 case atStart=>exact⟨0,rfl,Nat.zero_le _,by simp[zbk],hid' ⟨HB2.out,Below.refl _ _⟩⟩
 case round=>
  obtain⟨i,rfl,hi,rfl,HJ⟩:=hrel
  by_cases hik:i<ks.length
  ·obtain⟨k,hkk⟩:∃ k,ks[i]? = some k:=⟨_,List.getElem?_eq_getElem hik⟩
   obtain⟨b,off,kop,kn,kst,pk,kl,ck,rfl,hlb,hvk,r0,r1,r2,r3⟩:=zbq (zaw HK.out (HJ.out.1.mono HBB.out)) hkk
   have HKV:=hid' hvk
   have hle:=HC.out
   have g0:decide ((i:Int)<(ks.length:Int))=true:=by simp; omega
   have j1:(0:Int)≤(i:Int):=by omega
   have j2:(i:Int)<(ks.length:Int):=by omega
   have hiw:IntKind.i64.wrap ((i:Int)+1)=(i:Int)+1:=IntWalk.i64_in _ (by have:=hle.2; unfold maxLen at this; omega)
   have hmt:=zww ks i k hkk
   have hms:zbk (ks.take i)+zdl k≤2000000:=by
    have h1:=zyy (T.mk op n s ks)
    rw[zdl] at h1
    have h2:zbk (ks.take (i+1))≤zbk ks:=by
     conv=>rhs; rw[←List.take_append_drop (i+1) ks]
     have hap:∀ a b:List T,zbk a≤zbk (a++b):=by
      intro a b
      induction a with
      |nil=>simp[zbk]
      |cons x r ih=>rw[List.cons_append,zbk,zbk]; omega
     exact hap _ _
    have:=HSZ.out
    omega
   have hzz:=hz.out.2
   have hsw:IntKind.i64.wrap (z+(zbk (ks.take i):Int)+(zdl k:Int))=z+(zbk (ks.take i):Int)+(zdl k:Int):=IntWalk.i64_in _ (by omega)
   have HSW:=hid' (show z+(zbk (ks.take i):Int)+(zdl k:Int)=z+(zbk (ks.take (i+1)):Int) by rw[hmt]; push_cast; omega)
   have HKK:=hid' hkk
   have ba:=(Below.refl wr.heap.size wr).alloc (Nat.le_refl _) (.cells #[.int .i64 kop,.int .i64 kn,.string kst,.slice pk kl ck] 24)
   have nn:=heap_alloc_new wr (.cells #[.int .i64 kop,.int .i64 kn,.string kst,.slice pk kl ck] 24)
   have HBA:=hid' ba
   have HJA:=hid' (And.intro (Below.more HJ.out.1 ba) (Below.more HJ.out.2 ba))
   have HNN:=hid' nn
   clear hkk hvk hle ba nn hms hzz hmt
   go_upto_region 7 with(fail)
   clear r0 r1 r2 r3
   generalize World.alloc wr _=w3 at *
   have k0:=zaa HNN.out 0 _ rfl
   have k1:=zaa HNN.out 1 _ rfl
   have k2:=zaa HNN.out 2 _ rfl
   have k3:=zaa HNN.out 3 _ rfl
   have HCL:=hid' (HIH.out k (List.mem_of_getElem? HKK.out) B _ w3 (HKV.out.kept (HBA.out.mono (Nat.le_trans HBB.out HJ.out.1.size)) (Nat.le_refl _)) (Nat.le_trans HBB.out HJA.out.1.size))
   go_wp2_with fail
   refine HCL.out.mono ?_
   rintro e w4 ⟨rfl,b4⟩
   have HJ4:=hid' (And.intro (Below.more HJA.out.1 b4) (Below.more HJA.out.2 b4))
   have c3:=zaa (zad HJ4.out.2 HC2.out) 3 _ rfl
   clear b4 k0 k1 k2 k3
   go_wp2_with fail
   go_roundw
   case rel=>exact⟨i+1,by simp,by omega,by rw[HSW.out],hid' ⟨HJ4.out.1,HJ4.out.2⟩⟩
   case measure=>simp[intOf]; omega
  ·obtain rfl:i=ks.length:=by omega
   go_wp2_with fail
   go_ret
   refine⟨?_,HJ.out.1⟩
   rw[HM.out]
   simp only[List.take_length]
   congr 2
   rw[←hz.out.1]
   split<;>simp
end Gf
end
section
open Go.RowKit
namespace Co
def bit (i:Nat):Int:=if i=0 then 1 else if i<5 then 2 else 4
def on (p:Int)(i:Nat):Bool:=(p.toNat &&& (bit i).toNat) != 0
def try1 (p:Int)(i:Nat)(t:T):Option T:=if on p i=true then rule i t else none
def fitFrom (p:Int)(t:T):Nat→Nat→Option T
 |0,_=>none
 |k+1,i=>match try1 p i t with|some u=>some u|none=>fitFrom p t k (i+1)
def fit (p:Int)(t:T):Option T:=fitFrom p t 7 0
def loop (p:Int):Nat→T→T
 |0,t=>t
 |k+1,t=>if t.ks=[] then t else match fit p t with|none=>t|some u=>loop p k u
def settle (p:Int)(t:T):T:=loop p (meas t) t
mutual
def T.rw (p:Int):T→T
 | .mk o n s ks=>settle p (.mk o n s (rws p ks))
def rws (p:Int):List T→List T
 | []=>[]
 |k::r=>k.rw p::rws p r
end
theorem rws_map (p:Int)(ks:List T):rws p ks=ks.map (T.rw p):=by
 induction ks with
 |nil=>rfl
 |cons a r ih=>rw[rws,ih]; rfl
theorem zmk {p:Int}{t u:T}:∀(k i:Nat),fitFrom p t k i=some u→∃ j,rule j t=some u
 |0,_,h=>by cases h
 |k+1,i,h=>by
  rw[fitFrom] at h
  cases hr:try1 p i t with
  |some v=>
   rw[hr] at h
   obtain rfl:v=u:=by simpa using h
   unfold try1 at hr
   split at hr
   ·exact⟨i,hr⟩
   ·cases hr
  |none=>
   rw[hr] at h
   exact zmk k (i+1) h
theorem fit_step {p:Int}{t u:T}(h:fit p t=some u)(hx:t.letter≠0):Step t u:=by
 obtain⟨j,hj⟩:=zmk 7 0 h
 exact zyh hj hx
theorem ziq (t:T):1≤meas t:=by
 have:=zmy t
 have:=size_pos t
 omega
theorem zqy (p:Int):∀(k k':Nat) (t:T),t.letter≠0→meas t≤k→meas t≤k'→loop p k t=loop p k' t
 |0,_,t,_,h,_=>by have:=ziq t; omega
 |_+1,0,t,_,_,h=>by have:=ziq t; omega
 |k+1,k'+1,t,hx,h,h'=>by
  rw[loop,loop]
  by_cases he:t.ks=[]
  ·rw[if_pos he,if_pos he]
  ·rw[if_neg he,if_neg he]
   cases hf:fit p t with
   |none=>rfl
   |some u=>
    have hs:=fit_step hf hx
    exact zqy p k k' u (by rw[hs.letter]; exact hx) (by have:=hs.meas; omega) (by have:=hs.meas; omega)
theorem settle_stop {p:Int}{t:T}(h:t.ks=[]∨fit p t=none):settle p t=t:=by
 obtain⟨k,hk⟩:∃ k,meas t=k+1:=⟨meas t - 1,by have:=ziq t; omega⟩
 unfold settle
 rw[hk,loop]
 rcases h with h|h
 ·rw[if_pos h]
 ·rw[h]
  split<;>rfl
theorem settle_go {p:Int}{t u:T}(hx:t.letter≠0)(h:t.ks≠[])(hf:fit p t=some u):settle p t=settle p u:=by
 obtain⟨k,hk⟩:∃ k,meas t=k+1:=⟨meas t - 1,by have:=ziq t; omega⟩
 have hs:=fit_step hf hx
 show loop p (meas t) t=_
 rw[hk,loop,if_neg h,hf]
 exact zqy p k (meas u) u (by rw[hs.letter]; exact hx) (by have:=hs.meas; omega) (Nat.le_refl _)
inductive Normal (p:Int):T→Prop
 |mk {op n:Int} {s:ByteArray} {ks:List T}:(∀ k∈ks,Normal p k)→(ks=[]∨fit p (.mk op n s ks)=none)→Normal p (.mk op n s ks)
theorem Normal.kids {p:Int}{t:T}(h:Normal p t):∀ k∈t.ks,Normal p k:=by cases h with|mk h1 h2=>exact h1
theorem zqx {p:Int}{t:T}(h1:∀ k∈t.ks,Normal p k)(h2:t.ks=[]∨fit p t=none):Normal p t:=by cases t with|mk o n s ks=>exact .mk h1 h2
structure Kept (t u:T):Prop where
 letter:u.letter=t.letter
 size:u.size≤t.size
 depth:u.depth≤t.depth
 nodes:∀ x∈u.nodes,x∈t.nodes∨x.1=1∨x.1=2∨x.1=3∨x.1=23
theorem Kept.refl (t:T):Kept t t:=⟨rfl,Nat.le_refl _,Nat.le_refl _,fun _ h=>.inl h⟩
theorem Kept.trans {t u v:T}(h:Kept t u)(k:Kept u v):Kept t v:=
 ⟨k.letter.trans h.letter,Nat.le_trans k.size h.size,Nat.le_trans k.depth h.depth,fun x hx=>(k.nodes x hx).elim (h.nodes x) .inr⟩
theorem Step.kept {t u:T}(h:Step t u):Kept t u:=⟨h.letter,h.size,h.depth,h.nodes⟩
theorem zni (p:Int):∀(m:Nat) (t:T),meas t≤m→t.letter≠0→(∀ k∈t.ks,Normal p k)→Normal p (settle p t)∧Kept t (settle p t)
 |0,t,h,_,_=>by have:=ziq t; omega
 |m+1,t,h,hx,hk=>by
  by_cases he:t.ks=[]
  ·rw[settle_stop (.inl he)]
   exact⟨zqx hk (.inl he),.refl t⟩
  ·cases hf:fit p t with
   |none=>
    rw[settle_stop (.inr hf)]
    exact⟨zqx hk (.inr hf),.refl t⟩
   |some u=>
    have hs:=fit_step hf hx
    rw[settle_go hx he hf]
    obtain⟨h1,h2⟩:=zni p m u (by have:=hs.meas; omega) (by rw[hs.letter]; exact hx)
     (hs.kids (Normal p) hk (fun k h=>h.kids) (.mk (fun k h=>by cases h) (.inl rfl)))
    exact⟨h1,hs.kept.trans h2⟩
theorem zqt {f:T→T}:∀(ks:List T),(∀ k∈ks,(f k).size≤k.size)→sizes (ks.map f)≤sizes ks
 | [],_=>Nat.le_refl _
 |k::r,h=>by
  have h1:=h k (List.mem_cons_self ..)
  have h2:=zqt r (fun k hk=>h k (List.mem_cons_of_mem _ hk))
  rw[List.map_cons,sizes,sizes]
  omega
theorem zpf {f:T→T}:∀(ks:List T),(∀ k∈ks,(f k).depth≤k.depth)→zcz (ks.map f)≤zcz ks
 | [],_=>Nat.le_refl _
 |k::r,h=>by
  have h1:=h k (List.mem_cons_self ..)
  have h2:=zpf r (fun k hk=>h k (List.mem_cons_of_mem _ hk))
  rw[List.map_cons,zcz,zcz]
  omega
theorem zaw {op n:Int}{s:ByteArray}{ks:List T}{f:T→T}(h:∀ k∈ks,Kept k (f k)):Kept (.mk op n s ks) (.mk op n s (ks.map f)):=by
 refine⟨letter_congr ?_,?_,?_,fun x hx=>?_⟩
 ·rw[List.map_map]
  exact List.map_congr_left fun k hk=>(h k hk).letter
 ·have:=zqt ks (fun k hk=>(h k hk).size)
  rw[T.size,T.size]; omega
 ·have:=zpf ks (fun k hk=>(h k hk).depth)
  rw[T.depth,T.depth]; omega
 ·rw[T.nodes] at hx ⊢
  rcases List.mem_cons.1 hx with rfl|hx
  ·exact .inl (List.mem_cons_self ..)
  ·obtain⟨k',hk',hx'⟩:=mem_nodess.1 hx
   obtain⟨k,hk,rfl⟩:=List.mem_map.1 hk'
   rcases(h k hk).nodes x hx' with h1|h1
   ·exact .inl (List.mem_cons_of_mem _ (mem_nodess.2 ⟨k,hk,h1⟩))
   ·exact .inr h1
theorem rw_spec (p:Int)(t:T):t.letter≠0→Normal p (t.rw p)∧Kept t (t.rw p):=by
 induction t using T.ind with|h op n s ks ih=>?_
 intro hx
 have hk:=kids_ne hx
 rw[T.rw,rws_map]
 have hkept:Kept (.mk op n s ks) (.mk op n s (ks.map (T.rw p))):=zaw fun k h=>(ih k h (hk k h)).2
 obtain⟨h1,h2⟩:=zni p _ (.mk op n s (ks.map (T.rw p))) (Nat.le_refl _) (by rw[hkept.letter]; exact hx) (fun k h=>by
  obtain⟨j,hj,rfl⟩:=List.mem_map.1 h
  exact(ih j hj (hk j hj)).1)
 exact⟨h1,hkept.trans h2⟩
theorem Kept.good {t u:T}(h:Kept t u)(hg:t.good):u.good:=by
 obtain⟨h1,h2,h3⟩:=hg
 rw[zjd] at h1
 refine⟨(zjd u).2 ⟨Nat.le_trans h.size h1.1,Nat.le_trans h.depth h1.2⟩,by rw[h.letter]; exact h2,?_⟩
 unfold T.ahead at h3 ⊢
 rw[List.any_eq_false] at h3 ⊢
 intro x hx
 rcases h.nodes x hx with h'|h'|h'|h'|h'
 ·exact h3 x h'
 all_goals rw[h']; simp
theorem zvv {p:Int}{t:T}(h:t.good):(t.rw p).good:=(rw_spec p t (by rw[h.2.1]; decide)).2.good h
end Co
end
section
open Go.RowKit
set_option maxRecDepth 100000
theorem zdu (op n m:Int)(s:ByteArray)(p:Option Addr)(len c:Nat)(w:World):
  Calls Tryz.prog 137 #[.agg #[.int .i64 op,.int .i64 n,.string s,.slice p len c],.int .i64 m] w (zaj (.bool (op == 1 && n == m)) w):=by
 have hb:=heap_alloc_new w (.cells #[.int .i64 op,.int .i64 n,.string s,.slice p len c] 24)
 obtain⟨x0,x1,x2,x3⟩:=zab hb
 have hB:=hid' ((Below.refl w.heap.size w).alloc (Nat.le_refl _) (.cells #[.int .i64 op,.int .i64 n,.string s,.slice p len c] 24))
 clear hb
 cases h1:(op == 1) with
 |true=>
  have e:=hid' (show(true && n == m)=(n == m) from Bool.true_and _)
  rw[e.out]
  go_enter Tryz.func137,Tryz.ntmps137
  go_wp2_with fail
  all_goals
   go_ret
   exact⟨by simp[*],hB.out⟩
 |false=>
  have e:=hid' (show(false && n == m)=false from Bool.false_and _)
  rw[e.out]
  go_enter Tryz.func137,Tryz.ntmps137
  go_wp2_with fail
  all_goals
   go_ret
   exact⟨by simp[*],hB.out⟩
theorem zch (op n m:Int)(s:ByteArray)(p:Option Addr)(len c:Nat)(w:World):
  Calls Tryz.prog 138 #[.agg #[.int .i64 op,.int .i64 n,.string s,.slice p len c],.int .i64 m] w (zaj (.bool (op == 2 && n == m)) w):=by
 have hb:=heap_alloc_new w (.cells #[.int .i64 op,.int .i64 n,.string s,.slice p len c] 24)
 obtain⟨x0,x1,x2,x3⟩:=zab hb
 have hB:=hid' ((Below.refl w.heap.size w).alloc (Nat.le_refl _) (.cells #[.int .i64 op,.int .i64 n,.string s,.slice p len c] 24))
 clear hb
 cases h1:(op == 2) with
 |true=>
  have e:=hid' (show(true && n == m)=(n == m) from Bool.true_and _)
  rw[e.out]
  go_enter Tryz.func138,Tryz.ntmps138
  go_wp2_with fail
  all_goals
   go_ret
   exact⟨by simp[*],hB.out⟩
 |false=>
  have e:=hid' (show(false && n == m)=false from Bool.false_and _)
  rw[e.out]
  go_enter Tryz.func138,Tryz.ntmps138
  go_wp2_with fail
  all_goals
   go_ret
   exact⟨by simp[*],hB.out⟩
theorem zst (b:Bool)(w:World):Calls Tryz.prog 135 #[.bool b] w (Ret (.int .i64 (Co.tr b)) w):=by
 cases b with
 |true=>
  go_enter Tryz.func135,Tryz.ntmps135
  go_wp2_with fail
  go_ret
  exact⟨rfl,rfl⟩
 |false=>
  go_enter Tryz.func135,Tryz.ntmps135
  go_wp2_with fail
  go_ret
  exact⟨rfl,rfl⟩
theorem zzt (n:Int)(w:World):Calls Tryz.prog 133 #[.int .i64 n] w (zaj (.tuple #[zbv 1 n ⟨#[]⟩,.bool true]) w):=by
 go_enter Tryz.func133,Tryz.ntmps133
 go_wp2_with fail
 refine bodyPost_ret (v:=.tuple #[zbv 1 n ⟨#[]⟩,.bool true]) (by simp[results,Tryz.results133,go_sem,zbv]) rfl ?_
 refine⟨rfl,?_⟩
 exact(((Below.refl _ _).alloc (Nat.le_refl _) _))
theorem zzs (b:Bool)(w:World):Calls Tryz.prog 134 #[.bool b] w (zaj (.tuple #[zbv 2 (Co.tr b) ⟨#[]⟩,.bool true]) w):=by
 go_enter Tryz.func134,Tryz.ntmps134
 go_wp2_with (refine(zst _ _).mono ?_; rintro e w' ⟨rfl,rfl⟩)
 refine bodyPost_ret (v:=.tuple #[zbv 2 (Co.tr b) ⟨#[]⟩,.bool true]) (by simp[results,Tryz.results134,go_sem,zbv]) rfl ?_
 refine⟨rfl,?_⟩
 exact(((Below.refl _ _).alloc (Nat.le_refl _) _))
theorem zzr (n:Int)(w:World):Calls Tryz.prog 136 #[.int .i64 n] w (zaj (.tuple #[zbv 3 n ⟨#[]⟩,.bool true]) w):=by
 go_enter Tryz.func136,Tryz.ntmps136
 go_wp2_with fail
 refine bodyPost_ret (v:=.tuple #[zbv 3 n ⟨#[]⟩,.bool true]) (by simp[results,Tryz.results136,go_sem,zbv]) rfl ?_
 refine⟨rfl,?_⟩
 exact(((Below.refl _ _).alloc (Nat.le_refl _) _))
end
section
open Go.RowKit
set_option maxRecDepth 100000
def zeh (ok:Nat→Prop)(o:Option Co.T)(w:World)(e:Ending)(w':World):Prop:=Below w.heap.size w w'∧∃ u v,e=.returned (.tuple #[v,.bool o.isSome])∧CoreIn (fun b=>ok b∨w.heap.size≤b) w' u v∧∀ x,o=some x→u=x
theorem zhg {ok:Nat→Prop}{W:World}{op n:Int}(ho:I64 op)(hn:I64 n):CoreIn ok W (Co.leaf op n) (zbv op n ⟨#[]⟩):=
 CoreIn.close (ks:=[]) ⟨Nat.le_refl _,Nat.zero_le _⟩ ho hn (by decide) (fun i k e=>by simp at e)
theorem zgy {v:Value}{w w':World}{e:Ending}(h:Ret v w e w'):zaj v w e w':=⟨h.1,by rw[h.2]; exact Below.refl _ _⟩
theorem zrd {v:Value}{w w':World}{e:Ending}(h:Drew v w e w'):zaj v w e w':=by
 obtain⟨h1,n,rfl⟩:=h
 exact⟨h1,Below.drewn (Below.refl _ _) n⟩
theorem ziw (n:Int)(w:World):Calls Tryz.prog 133 #[.int .i64 n] w (zaj (.tuple #[.agg #[.int .i64 1,.int .i64 n,.string ⟨#[]⟩,.slice none 0 0],.bool true]) w):=zzt n w
theorem zmj (b:Bool)(w:World):Calls Tryz.prog 134 #[.bool b] w (zaj (.tuple #[.agg #[.int .i64 2,.int .i64 (Co.tr b),.string ⟨#[]⟩,.slice none 0 0],.bool true]) w):=zzs b w
theorem zzq (n:Int)(w:World):Calls Tryz.prog 136 #[.int .i64 n] w (zaj (.tuple #[.agg #[.int .i64 3,.int .i64 n,.string ⟨#[]⟩,.slice none 0 0],.bool true]) w):=zzr n w
theorem set4 {W:World}{b:Nat}{x0 y0 z0 u0:Value}{T:TypeId}(h:W.heap[b]? = some (.cells #[x0,y0,z0,u0] T (0,0)))(x y z u:Value):
  ((((W.setCell ⟨b,0,none⟩ x).setCell ⟨b,1,none⟩ y).setCell ⟨b,2,none⟩ z).setCell ⟨b,3,none⟩ u).heap[b]? = some (.cells #[x,y,z,u] T (0,0)) ∧
   ∀ base,base≤b→Below base W ((((W.setCell ⟨b,0,none⟩ x).setCell ⟨b,1,none⟩ y).setCell ⟨b,2,none⟩ z).setCell ⟨b,3,none⟩ u):=by
 refine⟨?_,fun base hb=>((((Below.refl _ _).setCell (p:=⟨b,0,none⟩) hb _).setCell (p:=⟨b,1,none⟩) hb _).setCell (p:=⟨b,2,none⟩) hb _).setCell (p:=⟨b,3,none⟩) hb _⟩
 have h1:=heap_setCell_same W b 0 _ T x h
 have h2:=heap_setCell_same _ b 1 _ T y h1
 have h3:=heap_setCell_same _ b 2 _ T z h2
 have h4:=heap_setCell_same _ b 3 _ T u h3
 rw[h4]
 simp
structure FoldIt (w:World)(t:Co.T)(cs:Array Value)(i:Nat)(a b:Int)(wr:World):Prop where
 le:i≤t.ks.length
 two:i≤2
 con:∀ j k,j<i→t.ks[j]? = some k→Co.isC k=true
 first:a=if 0<i then Co.kidN t 0 else 0
 second:b=if 1<i then Co.kidN t 1 else 0
 below:Below w.heap.size w wr
 c:wr.heap[w.heap.size]? = some (.cells cs 24 (0,0))
 r:wr.heap[w.heap.size+1]? = some (.cells #[.int .i64 0,.int .i64 0,.string ⟨#[]⟩,.slice none 0 0] 24 (0,0))
 n:wr.heap[w.heap.size+1+1]? = some (.cells #[.int .i64 a,.int .i64 b] 161 (0,0))
theorem FoldIt.alloc {w:World}{t:Co.T}{cs:Array Value}{i:Nat}{a b:Int}{wr:World}(h:FoldIt w t cs i a b wr)(o:Obj):FoldIt w t cs i a b (wr.alloc o):=by
 have hB:Below wr.heap.size wr (wr.alloc o):=(Below.refl _ _).alloc (Nat.le_refl _) _
 exact⟨h.le,h.two,h.con,h.first,h.second,h.below.trans (hB.mono h.below.size),(hB.block _ (zac h.c)).trans h.c,(hB.block _ (zac h.r)).trans h.r,(hB.block _ (zac h.n)).trans h.n⟩
theorem FoldIt.set {w:World}{t:Co.T}{cs:Array Value}{i:Nat}{a b:Int}{wr:World}(h:FoldIt w t cs i a b wr){k:Co.T}{kn:Int}(hk:t.ks[i]? = some k)(hc:Co.isC k=true)(hi:i<2)(hn:k.n=kn):
  FoldIt w t cs (i+1) (if i=0 then kn else a) (if i=1 then kn else b) (wr.setCell ⟨w.heap.size+1+1,i,none⟩ (.int .i64 kn)):=by
 have hkl:=(List.getElem?_eq_some_iff.1 hk).1
 have hkn:Co.kidN t i=kn:=by unfold Co.kidN; rw[hk]; exact hn
 refine⟨hkl,by omega,fun j k' hj hk'=>?_,?_,?_,h.below.setCell (p:=⟨w.heap.size+1+1,i,none⟩) (by simp; omega) _,(Below.heap_setCell _ _ _ _ (by show w.heap.size≠w.heap.size+1+1; omega)).trans h.c,(Below.heap_setCell _ _ _ _ (by show w.heap.size+1≠w.heap.size+1+1; omega)).trans h.r,?_⟩
 ·by_cases e:j=i
  ·subst e
   rw[hk] at hk'
   cases hk'
   exact hc
  ·exact h.con j k' (by omega) hk'
 ·rcases(by omega:i=0∨i=1) with rfl|rfl
  ·simp[hkn]
  ·simpa using h.first
 ·rcases(by omega:i=0∨i=1) with rfl|rfl
  ·simpa using h.second
  ·simp[hkn]
 ·rw[heap_setCell_same _ _ _ _ _ _ h.n]
  rcases(by omega:i=0∨i=1) with rfl|rfl<;>simp
theorem zte {t:Co.T}{i:Nat}(h:t.ks.length≤i):Co.kidN t i=0:=by unfold Co.kidN; rw[List.getElem?_eq_none h]; rfl
set_option maxHeartbeats 4000000 in
theorem zuq (ok:Nat→Prop)(t:Co.T)(v:Value)(w:World)(hv:CoreIn ok w t v)(hlen:t.ks.length≤3)(hN:∀ k∈t.ks, -1000000000000000≤k.n∧k.n≤1000000000000000):
  Calls Tryz.prog 89 #[v] w (zeh ok (Co.fold t) w):=by
 have HV:=hid' hv
 obtain⟨p,c,hve,hc,ho,hn,hs,hk⟩:=hv.open
 obtain⟨op,hop⟩:∃ o,Hid (t.op=o):=⟨_,hid' rfl⟩
 obtain⟨n,hn'⟩:∃ o,Hid (t.n=o):=⟨_,hid' rfl⟩
 obtain⟨s,hs'⟩:∃ o,Hid (t.s=o):=⟨_,hid' rfl⟩
 obtain⟨ln,hln⟩:∃ o,Hid (t.ks.length=o):=⟨_,hid' rfl⟩
 rw[hop.out,hn'.out,hs'.out,hln.out] at hve
 subst hve
 have HK:=hid' hk
 have HLEN:=hid' (show ln≤3 by rw[←hln.out]; exact hlen)
 have HN:=hid' hN
 have hb0:=heap_alloc_new w (.cells #[.int .i64 op,.int .i64 n,.string s,.slice p ln c] 24)
 clear hv hk hc ho hn hs hlen hN
 obtain⟨x0,x1,x2,x3⟩:=zab hb0
 have HB0:=hid' hb0
 clear hb0
 go_enter Tryz.func89,Tryz.ntmps89
 go_wp2_with fail
 generalize hw0:World.alloc _ _=w0
 have HI:=hid' (show FoldIt w t #[.int .i64 op,.int .i64 n,.string s,.slice p ln c] 0 0 0 w0 from by
  rw[←hw0]
  refine⟨Nat.zero_le _,by omega,fun j k h=>by omega,by simp,by simp,?_,?_,?_,?_⟩
  ·exact(((Below.refl w.heap.size w).alloc (Nat.le_refl _) _).alloc (by simp) _).alloc (by simp; omega) _
  ·exact(((Below.refl _ _).alloc (Nat.le_refl _) _).block w.heap.size (by simp; omega)).trans ((((Below.refl _ _).alloc (Nat.le_refl _) _).block w.heap.size (by simp)).trans HB0.out)
  ·exact(((Below.refl _ _).alloc (Nat.le_refl _) _).block (w.heap.size+1) (by simp)).trans (by have:=heap_alloc_new (w.alloc (.cells #[.int .i64 op,.int .i64 n,.string s,.slice p ln c] 24)) (.cells #[.int .i64 0,.int .i64 0,.string ⟨#[]⟩,.slice none 0 0] 24); simpa using this)
  ·have:=heap_alloc_new ((w.alloc (.cells #[.int .i64 op,.int .i64 n,.string s,.slice p ln c] 24)).alloc (.cells #[.int .i64 0,.int .i64 0,.string ⟨#[]⟩,.slice none 0 0] 24)) (.cells #[.int .i64 0,.int .i64 0] 161)
   simpa using this)
 clear hw0
 go_loopw [15] (fun iv wr=>∃(i:Nat) (a b:Int),iv=.int .i64 (i:Int)∧Hid (FoldIt w t #[.int .i64 op,.int .i64 n,.string s,.slice p ln c] i a b wr)) (fun iv _=>ln - (intOf iv).toNat)
 case atStart=>exact⟨0,0,0,rfl,HI⟩
 case round=>
  obtain⟨i,a,b,rfl,HJ⟩:=hrel
  by_cases hik:i<ln
  ·obtain⟨k,hk⟩:∃ k,t.ks[i]? = some k:=⟨_,List.getElem?_eq_getElem (by rw[hln.out]; exact hik)⟩
   obtain⟨vk,hrow,hvk⟩:=HK.out i k hk
   obtain⟨bl,off,x,y,z,u,e,hl,hve,r0,r1,r2,r3⟩:=hrow.keep (fun b ho hl=>⟨ho,HJ.out.below.block b hl⟩)
   subst e
   obtain⟨pk,ck,rfl, -, -, -, -, -⟩:=hvk.open
   obtain⟨kop,hkop⟩:∃ o,Hid (k.op=o):=⟨_,hid' rfl⟩
   obtain⟨kn,hkn⟩:∃ o,Hid (k.n=o):=⟨_,hid' rfl⟩
   rw[hkop.out,hkn.out] at hve
   obtain⟨rfl,rfl,rfl,rfl⟩:.int .i64 kop=x∧.int .i64 kn=y∧.string k.s=z∧.slice pk k.ks.length ck=u:=by simpa using hve
   clear hve hrow hvk
   have g0:decide ((i:Int)<(ln:Int))=true:=by simp; omega
   have j1:(0:Int)≤(i:Int):=by omega
   have j2:(i:Int)<(ln:Int):=by omega
   have hiw:IntKind.i64.wrap ((i:Int)+1)=(i:Int)+1:=IntWalk.i64_in _ (by have:=HLEN.out; omega)
   obtain⟨c0,c1,c2,c3⟩:=zab HJ.out.c
   have HKK:=hid' hk
   have HA:=hid' (HJ.out.alloc (.cells #[.int .i64 kop,.int .i64 kn,.string k.s,.slice pk k.ks.length ck] 24))
   obtain⟨d0,d1,d2,d3⟩:=zab HA.out.c
   obtain⟨e0,e1,e2,e3⟩:=zab HA.out.r
   have f0:∀ o,(wr.alloc (.cells #[.int .i64 kop,.int .i64 kn,.string k.s,.slice pk k.ks.length ck] 24)).frozen? ⟨w.heap.size+1,o,none⟩=false:=fun o=>Rw.frozen_of HA.out.r
   clear hk
   by_cases h2:2≤i
   ·have g2:decide ((1:Int)<(i:Int))=true:=by simp; omega
    have hS:=set4 HA.out.r (.int .i64 op) (.int .i64 n) (.string s) (.slice (some ⟨bl,off,none⟩) ln c)
    have HS:=hid' hS
    have HF:=hid' (show Co.fold t=none by
     unfold Co.fold
     rw[if_neg (fun h=>by have:=h.1; rw[hln.out] at this; omega)])
    clear hS
    go_wp2_with fail
    obtain⟨hbx,hbl⟩:=HS.out
    generalize World.setCell _ _ _=w9 at *
    obtain⟨y0,y1,y2,y3⟩:=zab hbx
    refine bodyPost_ret (v:=.tuple #[.agg #[.int .i64 op,.int .i64 n,.string s,.slice (some ⟨bl,off,none⟩) ln c],.bool false]) (by simp[results,Tryz.results89,go_sem,y0,y1,y2,y3]) rfl ?_
    have hbb:=HA.out.below.trans (hbl w.heap.size (by omega))
    exact⟨hbb,t,_,by rw[HF.out]; rfl,(HV.out.under hbb).old,fun x h=>by rw[HF.out] at h; cases h⟩
   ·have g2:decide ((1:Int)<(i:Int))=false:=by simp; omega
    by_cases hC:kop=1∨kop=2∨kop=3
    ·have hic:Co.isC k=true:=by
      unfold Co.isC
      rw[hkop.out]
      rcases hC with h|h|h<;>rw[h]<;>rfl
     have HIC:=hid' hic
     clear hic
     obtain⟨zv,z0⟩:∃ zv,(wr.alloc (.cells #[.int .i64 kop,.int .i64 kn,.string k.s,.slice pk k.ks.length ck] 24)).cell? ⟨w.heap.size+1+1,i,none⟩=some zv:=by
      rcases(by omega:i=0∨i=1) with rfl|rfl
      ·exact⟨_,by simp[World.cell?,HA.out.n]; rfl⟩
      ·exact⟨_,by simp[World.cell?,HA.out.n]; rfl⟩
     have j3:(i:Int)<2:=by omega
     have f1:∀ o,(wr.alloc (.cells #[.int .i64 kop,.int .i64 kn,.string k.s,.slice pk k.ks.length ck] 24)).frozen? ⟨w.heap.size+1+1,o,none⟩=false:=fun o=>Rw.frozen_of HA.out.n
     have HRS:=hid' (HA.out.set HKK.out HIC.out (by omega) hkn.out)
     rcases hC with rfl|rfl|rfl
     all_goals
      go_wp2_with fail
      go_roundw
      case rel=>exact⟨_,_,_,by go_num,HRS⟩
      case measure=>simp only[intOf]; omega
    ·simp only[not_or] at hC
     have g3:(kop != 1)=true:=by simpa using hC.1
     have g4:(kop != 2)=true:=by simpa using hC.2.1
     have g5:(kop != 3)=true:=by simpa using hC.2.2
     have hS:=set4 HA.out.r (.int .i64 op) (.int .i64 n) (.string s) (.slice (some ⟨bl,off,none⟩) ln c)
     have HS:=hid' hS
     have HF:=hid' (show Co.fold t=none by
      unfold Co.fold
      rw[if_neg (fun h=>by
       have h3:=List.all_eq_true.1 h.2 k (List.mem_of_getElem? HKK.out)
       unfold Co.isC at h3
       rw[hkop.out] at h3
       simp[hC.1,hC.2.1,hC.2.2] at h3)])
     clear hC hS
     go_wp2_with fail
     obtain⟨hbx,hbl⟩:=HS.out
     generalize World.setCell _ _ _=w9 at *
     obtain⟨y0,y1,y2,y3⟩:=zab hbx
     refine bodyPost_ret (v:=.tuple #[.agg #[.int .i64 op,.int .i64 n,.string s,.slice (some ⟨bl,off,none⟩) ln c],.bool false]) (by simp[results,Tryz.results89,go_sem,y0,y1,y2,y3]) rfl ?_
     have hbb:=HA.out.below.trans (hbl w.heap.size (by omega))
     exact⟨hbb,t,_,by rw[HF.out]; rfl,(HV.out.under hbb).old,fun x h=>by rw[HF.out] at h; cases h⟩
  ·obtain rfl:i=ln:=by have:=HJ.out.le; rw[hln.out] at this; omega
   have g0:decide (i<i)=false:=by simp
   have hall:t.ks.all Co.isC=true:=by
    rw[List.all_eq_true]
    intro k hk
    obtain⟨j,hj,rfl⟩:=List.mem_iff_getElem.1 hk
    exact HJ.out.con j _ (by rw[←hln.out]; exact hj) (List.getElem?_eq_getElem hj)
   have ha:a=Co.kidN t 0:=by
    rw[HJ.out.first]
    split
    ·rfl
    ·rw[zte (by rw[hln.out]; omega)]
   have hb:b=Co.kidN t 1:=by
    rw[HJ.out.second]
    split
    ·rfl
    ·rw[zte (by rw[hln.out]; omega)]
   have HF:=hid' (show Co.fold t=Co.foldOp op a b by
    unfold Co.fold
    rw[if_pos ⟨by rw[hln.out]; exact HJ.out.two,hall⟩,hop.out,ha,hb])
   clear hall ha hb hik
   have HD:=hid' (show FoldIt w t #[.int .i64 op,.int .i64 n,.string s,.slice p i c] i a b wr.drew from⟨HJ.out.le,HJ.out.two,HJ.out.con,HJ.out.first,HJ.out.second,HJ.out.below.drew,HJ.out.c,HJ.out.r,HJ.out.n⟩)
   obtain⟨c0,c1,c2,c3⟩:=zab HJ.out.c
   obtain⟨d0,d1,d2,d3⟩:=zab HD.out.c
   have z0:wr.drew.cell? ⟨w.heap.size+1+1,0,none⟩=some (.int .i64 a):=by simp[World.cell?,HD.out.n]
   have z1:wr.drew.cell? ⟨w.heap.size+1+1,1,none⟩=some (.int .i64 b):=by simp[World.cell?,HD.out.n]
   have fin:∀(m o:Int) (w9:World),Below w.heap.size w w9→Co.foldOp op a b=some (Co.leaf o m)→I64 o→I64 m→zeh ok (Co.fold t) w (.returned (.tuple #[.agg #[.int .i64 o,.int .i64 m,.string ⟨#[]⟩,.slice none 0 0],.bool true])) w9:=by
    intro m o w9 hb hf h1 h2
    exact⟨hb,Co.leaf o m,_,by rw[HF.out,hf]; rfl,zhg h1 h2,fun x hx=>by rw[HF.out,hf] at hx; cases hx; rfl⟩
   have FIN:=hid' fin
   clear fin
   by_cases h6:op=6
   ·subst h6
    have HO:=hid' (show Co.foldOp 6 a b=some (Co.leaf 1 (Num.neg a)) from rfl)
    go_wp2_with fail
    go_region
    all_goals
     go_wp2_with fail
     refine((zpw a _).mono fun _ _=>zgy).mono ?_
     rintro e w4 ⟨rfl,b4⟩
     go_wp2_with fail
     refine(ziw _ _).mono ?_
     rintro e w5 ⟨rfl,b5⟩
     have hr5:=((Below.more b4 b5).block (w.heap.size+1) (zac HD.out.r)).trans HD.out.r
     have HB5:=hid' (HD.out.below.trans ((Below.more b4 b5).mono HD.out.below.size))
     obtain⟨e0,e1,e2,e3⟩:=zab hr5
     have f0:∀ o,w5.frozen? ⟨w.heap.size+1,o,none⟩=false:=fun o=>Rw.frozen_of hr5
     have HS:=hid' (set4 hr5 (.int .i64 1) (.int .i64 (Num.neg a)) (.string ⟨#[]⟩) (.slice none 0 0))
     clear b5 hr5 b4
     go_wp2_with fail
     obtain⟨hbx,hbl⟩:=HS.out
     generalize World.setCell _ _ _=w9 at *
     obtain⟨y0,y1,y2,y3⟩:=zab hbx
     refine bodyPost_ret (v:=.tuple #[.agg #[.int .i64 1,.int .i64 (Num.neg a),.string ⟨#[]⟩,.slice none 0 0],.bool true]) (by simp[results,Tryz.results89,go_sem,y0,y1,y2,y3]) rfl ?_
     exact FIN.out _ _ w9 (HB5.out.trans (hbl w.heap.size (by omega))) HO.out (by unfold I64; omega) (by have:=Co.neg_in a; unfold I64; omega)
   by_cases h7:op=7
   ·subst h7
    have HO:=hid' (show Co.foldOp 7 a b=some (Co.leaf 1 (Num.add a b)) from rfl)
    go_wp2_with fail
    go_region
    all_goals
     go_wp2_with fail
     refine((zwi a b _).mono fun _ _=>zgy).mono ?_
     rintro e w4 ⟨rfl,b4⟩
     go_wp2_with fail
     refine(ziw _ _).mono ?_
     rintro e w5 ⟨rfl,b5⟩
     have hr5:=((Below.more b4 b5).block (w.heap.size+1) (zac HD.out.r)).trans HD.out.r
     have HB5:=hid' (HD.out.below.trans ((Below.more b4 b5).mono HD.out.below.size))
     obtain⟨e0,e1,e2,e3⟩:=zab hr5
     have f0:∀ o,w5.frozen? ⟨w.heap.size+1,o,none⟩=false:=fun o=>Rw.frozen_of hr5
     have HS:=hid' (set4 hr5 (.int .i64 1) (.int .i64 (Num.add a b)) (.string ⟨#[]⟩) (.slice none 0 0))
     clear b5 hr5 b4
     go_wp2_with fail
     obtain⟨hbx,hbl⟩:=HS.out
     generalize World.setCell _ _ _=w9 at *
     obtain⟨y0,y1,y2,y3⟩:=zab hbx
     refine bodyPost_ret (v:=.tuple #[.agg #[.int .i64 1,.int .i64 (Num.add a b),.string ⟨#[]⟩,.slice none 0 0],.bool true]) (by simp[results,Tryz.results89,go_sem,y0,y1,y2,y3]) rfl ?_
     exact FIN.out _ _ w9 (HB5.out.trans (hbl w.heap.size (by omega))) HO.out (by unfold I64; omega) (by have:=Co.add_in a b; unfold I64; omega)
   by_cases h8:op=8
   ·subst h8
    have HO:=hid' (show Co.foldOp 8 a b=some (Co.leaf 1 (Num.sub a b)) from rfl)
    go_wp2_with fail
    go_region
    all_goals
     go_wp2_with fail
     refine((zvq a b _).mono fun _ _=>zgy).mono ?_
     rintro e w4 ⟨rfl,b4⟩
     go_wp2_with fail
     refine(ziw _ _).mono ?_
     rintro e w5 ⟨rfl,b5⟩
     have hr5:=((Below.more b4 b5).block (w.heap.size+1) (zac HD.out.r)).trans HD.out.r
     have HB5:=hid' (HD.out.below.trans ((Below.more b4 b5).mono HD.out.below.size))
     obtain⟨e0,e1,e2,e3⟩:=zab hr5
     have f0:∀ o,w5.frozen? ⟨w.heap.size+1,o,none⟩=false:=fun o=>Rw.frozen_of hr5
     have HS:=hid' (set4 hr5 (.int .i64 1) (.int .i64 (Num.sub a b)) (.string ⟨#[]⟩) (.slice none 0 0))
     clear b5 hr5 b4
     go_wp2_with fail
     obtain⟨hbx,hbl⟩:=HS.out
     generalize World.setCell _ _ _=w9 at *
     obtain⟨y0,y1,y2,y3⟩:=zab hbx
     refine bodyPost_ret (v:=.tuple #[.agg #[.int .i64 1,.int .i64 (Num.sub a b),.string ⟨#[]⟩,.slice none 0 0],.bool true]) (by simp[results,Tryz.results89,go_sem,y0,y1,y2,y3]) rfl ?_
     exact FIN.out _ _ w9 (HB5.out.trans (hbl w.heap.size (by omega))) HO.out (by unfold I64; omega) (by have:=Co.sub_in a b; unfold I64; omega)
   by_cases h9:op=9
   ·subst h9
    have HO:=hid' (show Co.foldOp 9 a b=some (Co.leaf 1 (Num.mul a b)) from rfl)
    go_wp2_with fail
    go_region
    all_goals
     go_wp2_with fail
     refine((zpx a b _).mono fun _ _=>zrd).mono ?_
     rintro e w4 ⟨rfl,b4⟩
     go_wp2_with fail
     refine(ziw _ _).mono ?_
     rintro e w5 ⟨rfl,b5⟩
     have hr5:=((Below.more b4 b5).block (w.heap.size+1) (zac HD.out.r)).trans HD.out.r
     have HB5:=hid' (HD.out.below.trans ((Below.more b4 b5).mono HD.out.below.size))
     obtain⟨e0,e1,e2,e3⟩:=zab hr5
     have f0:∀ o,w5.frozen? ⟨w.heap.size+1,o,none⟩=false:=fun o=>Rw.frozen_of hr5
     have HS:=hid' (set4 hr5 (.int .i64 1) (.int .i64 (Num.mul a b)) (.string ⟨#[]⟩) (.slice none 0 0))
     clear b5 hr5 b4
     go_wp2_with fail
     obtain⟨hbx,hbl⟩:=HS.out
     generalize World.setCell _ _ _=w9 at *
     obtain⟨y0,y1,y2,y3⟩:=zab hbx
     refine bodyPost_ret (v:=.tuple #[.agg #[.int .i64 1,.int .i64 (Num.mul a b),.string ⟨#[]⟩,.slice none 0 0],.bool true]) (by simp[results,Tryz.results89,go_sem,y0,y1,y2,y3]) rfl ?_
     exact FIN.out _ _ w9 (HB5.out.trans (hbl w.heap.size (by omega))) HO.out (by unfold I64; omega) (by have:=Co.mul_in a b; unfold I64; omega)
   by_cases h10:op=10
   ·subst h10
    have HO:=hid' (show Co.foldOp 10 a b=some (Co.leaf 1 (Num.div a b)) from rfl)
    go_wp2_with fail
    go_region
    all_goals
     go_wp2_with fail
     refine((zqd a b _).mono fun _ _=>zrd).mono ?_
     rintro e w4 ⟨rfl,b4⟩
     go_wp2_with fail
     refine(ziw _ _).mono ?_
     rintro e w5 ⟨rfl,b5⟩
     have hr5:=((Below.more b4 b5).block (w.heap.size+1) (zac HD.out.r)).trans HD.out.r
     have HB5:=hid' (HD.out.below.trans ((Below.more b4 b5).mono HD.out.below.size))
     obtain⟨e0,e1,e2,e3⟩:=zab hr5
     have f0:∀ o,w5.frozen? ⟨w.heap.size+1,o,none⟩=false:=fun o=>Rw.frozen_of hr5
     have HS:=hid' (set4 hr5 (.int .i64 1) (.int .i64 (Num.div a b)) (.string ⟨#[]⟩) (.slice none 0 0))
     clear b5 hr5 b4
     go_wp2_with fail
     obtain⟨hbx,hbl⟩:=HS.out
     generalize World.setCell _ _ _=w9 at *
     obtain⟨y0,y1,y2,y3⟩:=zab hbx
     refine bodyPost_ret (v:=.tuple #[.agg #[.int .i64 1,.int .i64 (Num.div a b),.string ⟨#[]⟩,.slice none 0 0],.bool true]) (by simp[results,Tryz.results89,go_sem,y0,y1,y2,y3]) rfl ?_
     exact FIN.out _ _ w9 (HB5.out.trans (hbl w.heap.size (by omega))) HO.out (by unfold I64; omega) (by have:=Co.div_in a b; unfold I64; omega)
   by_cases h20:op=20
   ·subst h20
    have HO:=hid' (show Co.foldOp 20 a b=some (Co.leaf 1 (Dt.years a b)) from rfl)
    go_wp2_with fail
    go_region
    all_goals
     go_wp2_with fail
     refine((zql a b _).mono fun _ _=>id).mono ?_
     rintro e w4 ⟨rfl,b4⟩
     go_wp2_with fail
     refine(ziw _ _).mono ?_
     rintro e w5 ⟨rfl,b5⟩
     have hr5:=((Below.more b4 b5).block (w.heap.size+1) (zac HD.out.r)).trans HD.out.r
     have HB5:=hid' (HD.out.below.trans ((Below.more b4 b5).mono HD.out.below.size))
     obtain⟨e0,e1,e2,e3⟩:=zab hr5
     have f0:∀ o,w5.frozen? ⟨w.heap.size+1,o,none⟩=false:=fun o=>Rw.frozen_of hr5
     have HS:=hid' (set4 hr5 (.int .i64 1) (.int .i64 (Dt.years a b)) (.string ⟨#[]⟩) (.slice none 0 0))
     clear b5 hr5 b4
     go_wp2_with fail
     obtain⟨hbx,hbl⟩:=HS.out
     generalize World.setCell _ _ _=w9 at *
     obtain⟨y0,y1,y2,y3⟩:=zab hbx
     refine bodyPost_ret (v:=.tuple #[.agg #[.int .i64 1,.int .i64 (Dt.years a b),.string ⟨#[]⟩,.slice none 0 0],.bool true]) (by simp[results,Tryz.results89,go_sem,y0,y1,y2,y3]) rfl ?_
     exact FIN.out _ _ w9 (HB5.out.trans (hbl w.heap.size (by omega))) HO.out (by unfold I64; omega) (by have:=Co.years_in a b; unfold I64; omega)
   by_cases h21:op=21
   ·subst h21
    have HO:=hid' (show Co.foldOp 21 a b=some (Co.leaf 1 (Dt.years30 a b)) from rfl)
    go_wp2_with fail
    go_region
    all_goals
     go_wp2_with fail
     refine((zne a b _).mono fun _ _=>id).mono ?_
     rintro e w4 ⟨rfl,b4⟩
     go_wp2_with fail
     refine(ziw _ _).mono ?_
     rintro e w5 ⟨rfl,b5⟩
     have hr5:=((Below.more b4 b5).block (w.heap.size+1) (zac HD.out.r)).trans HD.out.r
     have HB5:=hid' (HD.out.below.trans ((Below.more b4 b5).mono HD.out.below.size))
     obtain⟨e0,e1,e2,e3⟩:=zab hr5
     have f0:∀ o,w5.frozen? ⟨w.heap.size+1,o,none⟩=false:=fun o=>Rw.frozen_of hr5
     have HS:=hid' (set4 hr5 (.int .i64 1) (.int .i64 (Dt.years30 a b)) (.string ⟨#[]⟩) (.slice none 0 0))
     clear b5 hr5 b4
     go_wp2_with fail
     obtain⟨hbx,hbl⟩:=HS.out
     generalize World.setCell _ _ _=w9 at *
     obtain⟨y0,y1,y2,y3⟩:=zab hbx
     refine bodyPost_ret (v:=.tuple #[.agg #[.int .i64 1,.int .i64 (Dt.years30 a b),.string ⟨#[]⟩,.slice none 0 0],.bool true]) (by simp[results,Tryz.results89,go_sem,y0,y1,y2,y3]) rfl ?_
     exact FIN.out _ _ w9 (HB5.out.trans (hbl w.heap.size (by omega))) HO.out (by unfold I64; omega) (by have:=Co.years30_in a b; unfold I64; omega)
   by_cases h14:op=14
   ·subst h14
    have HO:=hid' (show Co.foldOp 14 a b=some (Co.leaf 2 (Co.tr (decide (a=0)))) from rfl)
    go_wp2_with fail
    go_region
    all_goals
     go_wp2_with fail
     refine(zmj _ _).mono ?_
     rintro e w5 ⟨rfl,b5⟩
     have hr5:=(b5.block (w.heap.size+1) (zac HD.out.r)).trans HD.out.r
     have HB5:=hid' (HD.out.below.trans (b5.mono HD.out.below.size))
     obtain⟨e0,e1,e2,e3⟩:=zab hr5
     have f0:∀ o,w5.frozen? ⟨w.heap.size+1,o,none⟩=false:=fun o=>Rw.frozen_of hr5
     have HS:=hid' (set4 hr5 (.int .i64 2) (.int .i64 (Co.tr (a == 0))) (.string ⟨#[]⟩) (.slice none 0 0))
     clear b5 hr5
     go_wp2_with fail
     obtain⟨hbx,hbl⟩:=HS.out
     generalize World.setCell _ _ _=w9 at *
     obtain⟨y0,y1,y2,y3⟩:=zab hbx
     refine bodyPost_ret (v:=.tuple #[.agg #[.int .i64 2,.int .i64 (Co.tr (a == 0)),.string ⟨#[]⟩,.slice none 0 0],.bool true]) (by simp[results,Tryz.results89,go_sem,y0,y1,y2,y3]) rfl ?_
     exact FIN.out _ _ w9 (HB5.out.trans (hbl w.heap.size (by omega))) HO.out (by unfold I64; omega) (by have:=Co.tr_in (a == 0); unfold I64; omega)
   by_cases h11:op=11
   ·subst h11
    have HO:=hid' (show Co.foldOp 11 a b=some (Co.leaf 2 (Co.tr (decide (a<b)))) from rfl)
    go_wp2_with fail
    go_region
    all_goals
     go_wp2_with fail
     refine(zmj _ _).mono ?_
     rintro e w5 ⟨rfl,b5⟩
     have hr5:=(b5.block (w.heap.size+1) (zac HD.out.r)).trans HD.out.r
     have HB5:=hid' (HD.out.below.trans (b5.mono HD.out.below.size))
     obtain⟨e0,e1,e2,e3⟩:=zab hr5
     have f0:∀ o,w5.frozen? ⟨w.heap.size+1,o,none⟩=false:=fun o=>Rw.frozen_of hr5
     have HS:=hid' (set4 hr5 (.int .i64 2) (.int .i64 (Co.tr (decide (a<b)))) (.string ⟨#[]⟩) (.slice none 0 0))
     clear b5 hr5
     go_wp2_with fail
     obtain⟨hbx,hbl⟩:=HS.out
     generalize World.setCell _ _ _=w9 at *
     obtain⟨y0,y1,y2,y3⟩:=zab hbx
     refine bodyPost_ret (v:=.tuple #[.agg #[.int .i64 2,.int .i64 (Co.tr (decide (a<b))),.string ⟨#[]⟩,.slice none 0 0],.bool true]) (by simp[results,Tryz.results89,go_sem,y0,y1,y2,y3]) rfl ?_
     exact FIN.out _ _ w9 (HB5.out.trans (hbl w.heap.size (by omega))) HO.out (by unfold I64; omega) (by have:=Co.tr_in (decide (a<b)); unfold I64; omega)
   by_cases h17:op=17
   ·subst h17
    have HO:=hid' (show Co.foldOp 17 a b=some (Co.leaf 2 (Co.tr (decide (a<b)))) from rfl)
    go_wp2_with fail
    go_region
    all_goals
     go_wp2_with fail
     refine(zmj _ _).mono ?_
     rintro e w5 ⟨rfl,b5⟩
     have hr5:=(b5.block (w.heap.size+1) (zac HD.out.r)).trans HD.out.r
     have HB5:=hid' (HD.out.below.trans (b5.mono HD.out.below.size))
     obtain⟨e0,e1,e2,e3⟩:=zab hr5
     have f0:∀ o,w5.frozen? ⟨w.heap.size+1,o,none⟩=false:=fun o=>Rw.frozen_of hr5
     have HS:=hid' (set4 hr5 (.int .i64 2) (.int .i64 (Co.tr (decide (a<b)))) (.string ⟨#[]⟩) (.slice none 0 0))
     clear b5 hr5
     go_wp2_with fail
     obtain⟨hbx,hbl⟩:=HS.out
     generalize World.setCell _ _ _=w9 at *
     obtain⟨y0,y1,y2,y3⟩:=zab hbx
     refine bodyPost_ret (v:=.tuple #[.agg #[.int .i64 2,.int .i64 (Co.tr (decide (a<b))),.string ⟨#[]⟩,.slice none 0 0],.bool true]) (by simp[results,Tryz.results89,go_sem,y0,y1,y2,y3]) rfl ?_
     exact FIN.out _ _ w9 (HB5.out.trans (hbl w.heap.size (by omega))) HO.out (by unfold I64; omega) (by have:=Co.tr_in (decide (a<b)); unfold I64; omega)
   by_cases h12:op=12
   ·subst h12
    have HO:=hid' (show Co.foldOp 12 a b=some (Co.leaf 2 (Co.tr (decide (a≤b)))) from rfl)
    go_wp2_with fail
    go_region
    all_goals
     go_wp2_with fail
     refine(zmj _ _).mono ?_
     rintro e w5 ⟨rfl,b5⟩
     have hr5:=(b5.block (w.heap.size+1) (zac HD.out.r)).trans HD.out.r
     have HB5:=hid' (HD.out.below.trans (b5.mono HD.out.below.size))
     obtain⟨e0,e1,e2,e3⟩:=zab hr5
     have f0:∀ o,w5.frozen? ⟨w.heap.size+1,o,none⟩=false:=fun o=>Rw.frozen_of hr5
     have HS:=hid' (set4 hr5 (.int .i64 2) (.int .i64 (Co.tr (decide (a≤b)))) (.string ⟨#[]⟩) (.slice none 0 0))
     clear b5 hr5
     go_wp2_with fail
     obtain⟨hbx,hbl⟩:=HS.out
     generalize World.setCell _ _ _=w9 at *
     obtain⟨y0,y1,y2,y3⟩:=zab hbx
     refine bodyPost_ret (v:=.tuple #[.agg #[.int .i64 2,.int .i64 (Co.tr (decide (a≤b))),.string ⟨#[]⟩,.slice none 0 0],.bool true]) (by simp[results,Tryz.results89,go_sem,y0,y1,y2,y3]) rfl ?_
     exact FIN.out _ _ w9 (HB5.out.trans (hbl w.heap.size (by omega))) HO.out (by unfold I64; omega) (by have:=Co.tr_in (decide (a≤b)); unfold I64; omega)
   by_cases h13:op=13
   ·subst h13
    have HO:=hid' (show Co.foldOp 13 a b=some (Co.leaf 2 (Co.tr (decide (a=b)))) from rfl)
    go_wp2_with fail
    go_region
    all_goals
     go_wp2_with fail
     refine(zmj _ _).mono ?_
     rintro e w5 ⟨rfl,b5⟩
     have hr5:=(b5.block (w.heap.size+1) (zac HD.out.r)).trans HD.out.r
     have HB5:=hid' (HD.out.below.trans (b5.mono HD.out.below.size))
     obtain⟨e0,e1,e2,e3⟩:=zab hr5
     have f0:∀ o,w5.frozen? ⟨w.heap.size+1,o,none⟩=false:=fun o=>Rw.frozen_of hr5
     have HS:=hid' (set4 hr5 (.int .i64 2) (.int .i64 (Co.tr (a == b))) (.string ⟨#[]⟩) (.slice none 0 0))
     clear b5 hr5
     go_wp2_with fail
     obtain⟨hbx,hbl⟩:=HS.out
     generalize World.setCell _ _ _=w9 at *
     obtain⟨y0,y1,y2,y3⟩:=zab hbx
     refine bodyPost_ret (v:=.tuple #[.agg #[.int .i64 2,.int .i64 (Co.tr (a == b)),.string ⟨#[]⟩,.slice none 0 0],.bool true]) (by simp[results,Tryz.results89,go_sem,y0,y1,y2,y3]) rfl ?_
     exact FIN.out _ _ w9 (HB5.out.trans (hbl w.heap.size (by omega))) HO.out (by unfold I64; omega) (by have:=Co.tr_in (a == b); unfold I64; omega)
   by_cases h18:op=18
   ·subst h18
    have HO:=hid' (show Co.foldOp 18 a b=some (Co.leaf 3 (Dt.plus a (Num.whole b))) from rfl)
    go_wp2_with fail
    go_region
    all_goals
     go_wp2_with fail
     refine((zja b _).mono fun _ _=>zgy).mono ?_
     rintro e w3 ⟨rfl,b3⟩
     go_wp2_with fail
     refine((zml a (Num.whole b) _).mono fun _ _=>zgy).mono ?_
     rintro e w4 ⟨rfl,b4⟩
     go_wp2_with fail
     refine(zzq _ _).mono ?_
     rintro e w5 ⟨rfl,b5⟩
     have hr5:=((Below.more b3 (Below.more b4 b5)).block (w.heap.size+1) (zac HD.out.r)).trans HD.out.r
     have HB5:=hid' (HD.out.below.trans ((Below.more b3 (Below.more b4 b5)).mono HD.out.below.size))
     obtain⟨e0,e1,e2,e3⟩:=zab hr5
     have f0:∀ o,w5.frozen? ⟨w.heap.size+1,o,none⟩=false:=fun o=>Rw.frozen_of hr5
     have HS:=hid' (set4 hr5 (.int .i64 3) (.int .i64 (Dt.plus a (Num.whole b))) (.string ⟨#[]⟩) (.slice none 0 0))
     clear b5 hr5 b4 b3
     go_wp2_with fail
     obtain⟨hbx,hbl⟩:=HS.out
     generalize World.setCell _ _ _=w9 at *
     obtain⟨y0,y1,y2,y3⟩:=zab hbx
     refine bodyPost_ret (v:=.tuple #[.agg #[.int .i64 3,.int .i64 (Dt.plus a (Num.whole b)),.string ⟨#[]⟩,.slice none 0 0],.bool true]) (by simp[results,Tryz.results89,go_sem,y0,y1,y2,y3]) rfl ?_
     exact FIN.out _ _ w9 (HB5.out.trans (hbl w.heap.size (by omega))) HO.out (by unfold I64; omega) (by have:=Co.plus_in a (Num.whole b); unfold I64; omega)
   by_cases h19:op=19
   ·subst h19
    have HO:=hid' (show Co.foldOp 19 a b=some (Co.leaf 3 (Dt.months a (Num.whole b))) from rfl)
    go_wp2_with fail
    go_region
    all_goals
     go_wp2_with fail
     refine((zja b _).mono fun _ _=>zgy).mono ?_
     rintro e w3 ⟨rfl,b3⟩
     go_wp2_with fail
     refine((zou a (Num.whole b) _).mono fun _ _=>id).mono ?_
     rintro e w4 ⟨rfl,b4⟩
     go_wp2_with fail
     refine(zzq _ _).mono ?_
     rintro e w5 ⟨rfl,b5⟩
     have hr5:=((Below.more b3 (Below.more b4 b5)).block (w.heap.size+1) (zac HD.out.r)).trans HD.out.r
     have HB5:=hid' (HD.out.below.trans ((Below.more b3 (Below.more b4 b5)).mono HD.out.below.size))
     obtain⟨e0,e1,e2,e3⟩:=zab hr5
     have f0:∀ o,w5.frozen? ⟨w.heap.size+1,o,none⟩=false:=fun o=>Rw.frozen_of hr5
     have HS:=hid' (set4 hr5 (.int .i64 3) (.int .i64 (Dt.months a (Num.whole b))) (.string ⟨#[]⟩) (.slice none 0 0))
     clear b5 hr5 b4 b3
     go_wp2_with fail
     obtain⟨hbx,hbl⟩:=HS.out
     generalize World.setCell _ _ _=w9 at *
     obtain⟨y0,y1,y2,y3⟩:=zab hbx
     refine bodyPost_ret (v:=.tuple #[.agg #[.int .i64 3,.int .i64 (Dt.months a (Num.whole b)),.string ⟨#[]⟩,.slice none 0 0],.bool true]) (by simp[results,Tryz.results89,go_sem,y0,y1,y2,y3]) rfl ?_
     exact FIN.out _ _ w9 (HB5.out.trans (hbl w.heap.size (by omega))) HO.out (by unfold I64; omega) (by have:=Co.months_in a (Num.whole b); unfold I64; omega)
   have HO:=hid' (show Co.foldOp op a b=none by unfold Co.foldOp; simp[h6,h7,h8,h9,h10,h20,h21,h14,h11,h17,h12,h13,h18,h19])
   have HNF:=hid' (show Co.fold t=none from HF.out.trans HO.out)
   have hr5:wr.drew.heap[w.heap.size+1]? = _:=HD.out.r
   obtain⟨e0,e1,e2,e3⟩:=zab hr5
   have f0:∀ o,wr.drew.frozen? ⟨w.heap.size+1,o,none⟩=false:=fun o=>Rw.frozen_of hr5
   have HS:=hid' (set4 hr5 (.int .i64 op) (.int .i64 n) (.string s) (.slice p i c))
   clear hr5
   have q6:(op == 6)=false:=by simpa using h6
   have q7:(op == 7)=false:=by simpa using h7
   have q8:(op == 8)=false:=by simpa using h8
   have q9:(op == 9)=false:=by simpa using h9
   have q10:(op == 10)=false:=by simpa using h10
   have q20:(op == 20)=false:=by simpa using h20
   have q21:(op == 21)=false:=by simpa using h21
   have q14:(op == 14)=false:=by simpa using h14
   have q11:(op == 11)=false:=by simpa using h11
   have q17:(op == 17)=false:=by simpa using h17
   have q12:(op == 12)=false:=by simpa using h12
   have q13:(op == 13)=false:=by simpa using h13
   have q18:(op == 18)=false:=by simpa using h18
   have q19:(op == 19)=false:=by simpa using h19
   clear h6 h7 h8 h9 h10 h20 h21 h14 h11 h17 h12 h13 h18 h19
   go_wp2_with fail
   go_region
   all_goals
    generalize World.drew wr=wd at *
    go_wp2_with fail
    --trace_state
    obtain⟨hbx,hbl⟩:=HS.out
    generalize World.setCell _ _ _=w9 at *
    obtain⟨y0,y1,y2,y3⟩:=zab hbx
    refine bodyPost_ret (v:=.tuple #[.agg #[.int .i64 op,.int .i64 n,.string s,.slice p i c],.bool false]) (by simp[results,Tryz.results89,go_sem,y0,y1,y2,y3]) rfl ?_
    have hbb:=HD.out.below.trans (hbl w.heap.size (by omega))
    exact⟨hbb,t,_,by rw[HNF.out]; rfl,(HV.out.under hbb).old,fun x h=>by rw[HNF.out] at h; cases h⟩
end
section
open Go.RowKit
set_option maxRecDepth 100000
structure KidAt (ok:Nat→Prop)(W:World)(bl o:Nat)(k:Co.T)(op n:Int)(s:ByteArray)(p:Option Addr)(len c:Nat):Prop where
 lt:bl<W.heap.size
 op':k.op=op
 n':k.n=n
 s':k.s=s
 len':k.ks.length=len
 x0:W.cell? ⟨bl,o,none⟩=some (.int .i64 op)
 x1:W.cell? ⟨bl,o+1,none⟩=some (.int .i64 n)
 x2:W.cell? ⟨bl,o+2,none⟩=some (.string s)
 x3:W.cell? ⟨bl,o+3,none⟩=some (.slice p len c)
 val:CoreIn ok W k (.agg #[.int .i64 op,.int .i64 n,.string s,.slice p len c])
theorem KidAt.below {ok:Nat→Prop}{W W':World}{bl o:Nat}{k:Co.T}{op n:Int}{s:ByteArray}{p:Option Addr}{len c:Nat}(h:KidAt ok W bl o k op n s p len c)(hb:Below W.heap.size W W'):KidAt ok W' bl o k op n s p len c:=
 ⟨Nat.lt_of_lt_of_le h.lt hb.size,h.op',h.n',h.s',h.len',(hb.cell (p:=⟨bl,_,none⟩) h.lt).trans h.x0,(hb.cell (p:=⟨bl,_,none⟩) h.lt).trans h.x1,(hb.cell (p:=⟨bl,_,none⟩) h.lt).trans h.x2,(hb.cell (p:=⟨bl,_,none⟩) h.lt).trans h.x3,h.val.under hb⟩
theorem zfa {ok:Nat→Prop}{W:World}{t:Co.T}{op n:Int}{s:ByteArray}{p:Option Addr}{len c:Nat}(h:CoreIn ok W t (.agg #[.int .i64 op,.int .i64 n,.string s,.slice p len c]))(h0:0<t.ks.length):
  ∃ bl off,p=some ⟨bl,off,none⟩∧∀ i k,t.ks[i]? = some k→∃ op n s p len c,KidAt ok W bl (off+i * 4) k op n s p len c:=by
 obtain⟨p',c',e,hc,ho,hn,hs,hk⟩:=h.open
 have e':p=p':=by simp at e; exact e.2.2.2.1
 subst e'
 obtain⟨k0,hk0⟩:∃ k,t.ks[0]? = some k:=⟨_,List.getElem?_eq_getElem h0⟩
 obtain⟨v0,⟨bl,off, -, -, -, -,e0,hl, -⟩, -⟩:=hk 0 k0 hk0
 subst e0
 refine⟨bl,off,rfl,fun i k hi=>?_⟩
 obtain⟨vk,hrow,hvk⟩:=hk i k hi
 obtain⟨b,o,x,y,z,u,e1,hl1,hve,r0,r1,r2,r3⟩:=hrow
 simp only[Option.some.injEq,Addr.mk.injEq,and_true] at e1
 obtain⟨rfl,rfl⟩:=e1
 obtain⟨pk,ck,rfl, -⟩:=hvk.open
 obtain⟨rfl,rfl,rfl,rfl⟩:.int .i64 k.op=x∧.int .i64 k.n=y∧.string k.s=z∧.slice pk k.ks.length ck=u:=by simpa using hve
 exact⟨_,_,_,_,_,_,⟨World.block_lt_of_cell? W _ r0,rfl,rfl,rfl,rfl,r0,r1,r2,r3,hvk⟩⟩
theorem zbn {ok:Nat→Prop}{W:World}{t:Co.T}{v:Value}(h:CoreIn ok W t v):∃ op n s p len c,v=.agg #[.int .i64 op,.int .i64 n,.string s,.slice p len c]∧(t.op=op∧t.n=n∧t.s=s∧t.ks.length=len):=by
 obtain⟨p,c,e, -⟩:=h.open
 exact⟨_,_,_,p,_,c,e,rfl,rfl,rfl,rfl⟩
theorem zdx (W:World)(b:Nat)(x y z u:Value):W.grownBy ((((W.setCell ⟨b,0,none⟩ x).setCell ⟨b,1,none⟩ y).setCell ⟨b,2,none⟩ z).setCell ⟨b,3,none⟩ u) (some b):=
 Rw.grown_trans (Rw.grown_trans (Rw.grown_trans (Rw.grown_set W b 0 x) (Rw.grown_set _ b 1 y)) (Rw.grown_set _ b 2 z)) (Rw.grown_set _ b 3 u)
theorem zej {W W':World}(hh:W'.heap=W.heap){a:Addr}{v:Value}(h:W.cell? a=some v):W'.cell? a=some v:=by
 unfold World.cell? at *
 rw[hh]
 exact h
theorem Co.twice_kids {t:Co.T}(h:t.op=6∨t.op=14∨t.op=25)(hx:t.letter≠0):∃ k,t.ks=[k]∧k.letter≠0:=by
 rcases h with e|e|e
 ·obtain⟨h1, -, -⟩:=Co.open_kids (t:=t) (by rw[e]; decide) (by rw[e]; exact Co.want_6) hx
  obtain⟨k,hk1,hk2, -⟩:=Co.one_kid h1
  exact⟨k,hk1,by rw[hk2]; decide⟩
 ·obtain⟨h1, -, -⟩:=Co.open_kids (t:=t) (by rw[e]; decide) (by rw[e]; exact Co.want_14) hx
  obtain⟨k,hk1,hk2, -⟩:=Co.one_kid h1
  exact⟨k,hk1,by rw[hk2]; decide⟩
 ·obtain⟨h1, -, -⟩:=Co.open_kids (t:=t) (by rw[e]; decide) (by rw[e]; exact Co.want_25) hx
  obtain⟨k,hk1,hk2, -⟩:=Co.one_kid h1
  exact⟨k,hk1,by rw[hk2]; decide⟩
set_option maxHeartbeats 4000000 in
theorem zss (ok:Nat→Prop)(t:Co.T)(v:Value)(w:World)(hv:CoreIn ok w t v)(hx:t.letter≠0)(h0:0<t.ks.length):
  Calls Tryz.prog 90 #[v] w (zeh ok (Co.twice t) w):=by
 obtain⟨op,n,s,p,ln,c,rfl,hop,hn,hs,hln⟩:=zbn hv
 have HV:=hid' hv
 obtain⟨bl,off,rfl,hrows⟩:=zfa hv h0
 have hb0:=heap_alloc_new w (.cells #[.int .i64 op,.int .i64 n,.string s,.slice (some ⟨bl,off,none⟩) ln c] 24)
 have hr0:=heap_alloc_new (w.alloc (.cells #[.int .i64 op,.int .i64 n,.string s,.slice (some ⟨bl,off,none⟩) ln c] 24)) (.cells #[.int .i64 0,.int .i64 0,.string ⟨#[]⟩,.slice none 0 0] 24)
 simp only[World.size_alloc] at hr0
 have hB0:Below w.heap.size w ((w.alloc (.cells #[.int .i64 op,.int .i64 n,.string s,.slice (some ⟨bl,off,none⟩) ln c] 24)).alloc (.cells #[.int .i64 0,.int .i64 0,.string ⟨#[]⟩,.slice none 0 0] 24)):=((Below.refl w.heap.size w).alloc (Nat.le_refl _) _).alloc (by simp) _
 have hc0:=(((Below.refl _ (w.alloc (.cells #[.int .i64 op,.int .i64 n,.string s,.slice (some ⟨bl,off,none⟩) ln c] 24))).alloc (Nat.le_refl _) (.cells #[.int .i64 0,.int .i64 0,.string ⟨#[]⟩,.slice none 0 0] 24)).block w.heap.size (by simp)).trans hb0
 have j0:(0:Int)<(ln:Int):=by omega
 have HOP:=hid' hop
 have HN:=hid' hn
 have HLN:=hid' hln
 have HROWS:=hid' hrows
 have HX:=hid' hx
 have H0:=hid' h0
 clear hb0 hop hn hs hln hrows hx h0 hv
 go_enter Tryz.func90,Tryz.ntmps90
 go_wp2_with fail
 generalize World.alloc _ _=w1 at *
 have HB0:=hid' hB0
 have HR0:=hid' hr0
 have HC0:=hid' hc0
 obtain⟨k,kat⟩:∃ k,t.ks[0]? = some k:=⟨_,List.getElem?_eq_getElem H0.out⟩
 obtain⟨kop,kn,ks,kp,klen,kc,kH⟩:=HROWS.out 0 k kat
 have kK:=hid' (kH.below hB0)
 have kV:=hid' kH.val
 clear kH
 clear hr0 hB0
 obtain⟨d0,d1,d2,d3⟩:=zab HC0.out
 have KAT:=hid' kat
 clear hc0 kat
 have kx0:=kK.out.x0
 have kx1:=kK.out.x1
 have kx2:=kK.out.x2
 have kx3:=kK.out.x3
 simp only[Nat.zero_mul,Nat.add_zero,Nat.one_mul] at kx0 kx1 kx2 kx3
 by_cases h:op=6∨op=14∨op=25
 ·obtain⟨k',hk1,hk2⟩:∃ k',t.ks=[k']∧k'.letter≠0:=Co.twice_kids (by rw[HOP.out]; exact h) HX.out
  have ek:k=k':=by have:=KAT.out; rw[hk1] at this; simpa using this.symm
  subst ek
  have eK:t.kid 0=k:=by unfold Co.T.kid; rw[KAT.out]; rfl
  by_cases hk:kop=op
  ·subst hk
   obtain⟨j,hj1,hj2⟩:∃ j,k.ks=[j]∧j.letter≠0:=Co.twice_kids (by rw[kK.out.op']; exact h) hk2
   have eJ:k.kid 0=j:=by unfold Co.T.kid; rw[hj1]; rfl
   have HF:=hid' (show Co.twice t=some j by unfold Co.twice; rw[eK,eJ,HOP.out,kK.out.op']; exact if_pos ⟨h,rfl⟩)
   obtain⟨bl2,off2,ekp,hrows2⟩:=zfa kV.out (by rw[hj1]; simp)
   obtain⟨jop,jn,js,jp,jlen,jc,jH⟩:=hrows2 0 j (by rw[hj1]; rfl)
   subst ekp
   have jV:=hid' jH.val
   have JK:=hid' (jH.below HB0.out)
   have j1:(0:Int)<(klen:Int):=by have:=kK.out.len'; rw[hj1] at this; simp at this; omega
   have jx0:=JK.out.x0
   have jx1:=JK.out.x1
   have jx2:=JK.out.x2
   have jx3:=JK.out.x3
   simp only[Nat.zero_mul,Nat.add_zero] at jx0 jx1 jx2 jx3
   clear hk1 hk2 eK hj1 hj2 eJ hrows2 jH
   rcases h with rfl|rfl|rfl
   all_goals
    go_quiet (fail)
    obtain⟨w2,hw2⟩:∃ w2,w2=w1.drewN nq:=⟨_,rfl⟩
    rw[←hw2]
    have hh:w2.heap=w1.heap:=by rw[hw2,zgp]
    have hB2:Below w.heap.size w w2:=by rw[hw2]; exact Below.drewn HB0.out nq
    have hr2:=HR0.out
    have hc2:=HC0.out
    rw[←hh] at hr2 hc2
    have HB2:=hid' hB2
    have HR2:=hid' hr2
    have HC2:=hid' hc2
    clear hB2 hr2 hc2 d0 d1 d2 d3
    obtain⟨d0,d1,d2,d3⟩:=zab HC2.out
    replace kx0:=zej hh kx0
    replace kx1:=zej hh kx1
    replace kx2:=zej hh kx2
    replace kx3:=zej hh kx3
    replace jx0:=zej hh jx0
    replace jx1:=zej hh jx1
    replace jx2:=zej hh jx2
    replace jx3:=zej hh jx3
    have HS:=hid' (set4 HR2.out (.int .i64 jop) (.int .i64 jn) (.string js) (.slice jp jlen jc))
    obtain⟨r0,r1,r2,r3⟩:=zab HR2.out
    have f0:∀ o,w2.frozen? ⟨w.heap.size+1,o,none⟩=false:=fun o=>Rw.frozen_of HR2.out
    clear hw2 hh
    go_wp2_with fail
    obtain⟨hbx,hbl⟩:=HS.out
    generalize World.setCell _ _ _=w9 at *
    obtain⟨y0,y1,y2,y3⟩:=zab hbx
    refine bodyPost_ret (v:=.tuple #[.agg #[.int .i64 jop,.int .i64 jn,.string js,.slice jp jlen jc],.bool true]) (by simp[results,Tryz.results90,go_sem,y0,y1,y2,y3]) rfl ?_
    have hbb:=HB2.out.trans (hbl w.heap.size (by omega))
    exact⟨hbb,j,_,by rw[HF.out]; rfl,(jV.out.under hbb).old,fun x h=>by rw[HF.out] at h; cases h; rfl⟩
  ·have HF:=hid' (show Co.twice t=none by unfold Co.twice; rw[eK,HOP.out,kK.out.op']; exact if_neg (fun h=>hk h.2))
   clear hk1 hk2 eK
   rcases h with rfl|rfl|rfl
   ·have gk:=beq_false_of_ne hk
    clear hk
    go_quiet (fail)
    obtain⟨w2,hw2⟩:∃ w2,w2=w1.drewN nq:=⟨_,rfl⟩
    rw[←hw2]
    have hh:w2.heap=w1.heap:=by rw[hw2,zgp]
    have hB2:Below w.heap.size w w2:=by rw[hw2]; exact Below.drewn HB0.out nq
    have hr2:=HR0.out
    have hc2:=HC0.out
    rw[←hh] at hr2 hc2
    have HB2:=hid' hB2
    have HR2:=hid' hr2
    have HC2:=hid' hc2
    clear hB2 hr2 hc2 d0 d1 d2 d3
    obtain⟨d0,d1,d2,d3⟩:=zab HC2.out
    have HS:=hid' (set4 HR2.out (.int .i64 6) (.int .i64 n) (.string s) (.slice (some ⟨bl,off,none⟩) ln c))
    obtain⟨r0,r1,r2,r3⟩:=zab HR2.out
    have f0:∀ o,w2.frozen? ⟨w.heap.size+1,o,none⟩=false:=fun o=>Rw.frozen_of HR2.out
    clear hw2 hh
    go_wp2_with fail
    obtain⟨hbx,hbl⟩:=HS.out
    generalize World.setCell _ _ _=w9 at *
    obtain⟨y0,y1,y2,y3⟩:=zab hbx
    refine bodyPost_ret (v:=.tuple #[.agg #[.int .i64 6,.int .i64 n,.string s,.slice (some ⟨bl,off,none⟩) ln c],.bool false]) (by simp[results,Tryz.results90,go_sem,y0,y1,y2,y3]) rfl ?_
    have hbb:=HB2.out.trans (hbl w.heap.size (by omega))
    exact⟨hbb,t,_,by rw[HF.out]; rfl,(HV.out.under hbb).old,fun x h=>by rw[HF.out] at h; cases h⟩
   ·have gk:=beq_false_of_ne hk
    clear hk
    go_quiet (fail)
    obtain⟨w2,hw2⟩:∃ w2,w2=w1.drewN nq:=⟨_,rfl⟩
    rw[←hw2]
    have hh:w2.heap=w1.heap:=by rw[hw2,zgp]
    have hB2:Below w.heap.size w w2:=by rw[hw2]; exact Below.drewn HB0.out nq
    have hr2:=HR0.out
    have hc2:=HC0.out
    rw[←hh] at hr2 hc2
    have HB2:=hid' hB2
    have HR2:=hid' hr2
    have HC2:=hid' hc2
    clear hB2 hr2 hc2 d0 d1 d2 d3
    obtain⟨d0,d1,d2,d3⟩:=zab HC2.out
    have HS:=hid' (set4 HR2.out (.int .i64 14) (.int .i64 n) (.string s) (.slice (some ⟨bl,off,none⟩) ln c))
    obtain⟨r0,r1,r2,r3⟩:=zab HR2.out
    have f0:∀ o,w2.frozen? ⟨w.heap.size+1,o,none⟩=false:=fun o=>Rw.frozen_of HR2.out
    clear hw2 hh
    go_wp2_with fail
    obtain⟨hbx,hbl⟩:=HS.out
    generalize World.setCell _ _ _=w9 at *
    obtain⟨y0,y1,y2,y3⟩:=zab hbx
    refine bodyPost_ret (v:=.tuple #[.agg #[.int .i64 14,.int .i64 n,.string s,.slice (some ⟨bl,off,none⟩) ln c],.bool false]) (by simp[results,Tryz.results90,go_sem,y0,y1,y2,y3]) rfl ?_
    have hbb:=HB2.out.trans (hbl w.heap.size (by omega))
    exact⟨hbb,t,_,by rw[HF.out]; rfl,(HV.out.under hbb).old,fun x h=>by rw[HF.out] at h; cases h⟩
   ·have gk:=beq_false_of_ne hk
    clear hk
    go_quiet (fail)
    obtain⟨w2,hw2⟩:∃ w2,w2=w1.drewN nq:=⟨_,rfl⟩
    rw[←hw2]
    have hh:w2.heap=w1.heap:=by rw[hw2,zgp]
    have hB2:Below w.heap.size w w2:=by rw[hw2]; exact Below.drewn HB0.out nq
    have hr2:=HR0.out
    have hc2:=HC0.out
    rw[←hh] at hr2 hc2
    have HB2:=hid' hB2
    have HR2:=hid' hr2
    have HC2:=hid' hc2
    clear hB2 hr2 hc2 d0 d1 d2 d3
    obtain⟨d0,d1,d2,d3⟩:=zab HC2.out
    have HS:=hid' (set4 HR2.out (.int .i64 25) (.int .i64 n) (.string s) (.slice (some ⟨bl,off,none⟩) ln c))
    obtain⟨r0,r1,r2,r3⟩:=zab HR2.out
    have f0:∀ o,w2.frozen? ⟨w.heap.size+1,o,none⟩=false:=fun o=>Rw.frozen_of HR2.out
    clear hw2 hh
    go_wp2_with fail
    obtain⟨hbx,hbl⟩:=HS.out
    generalize World.setCell _ _ _=w9 at *
    obtain⟨y0,y1,y2,y3⟩:=zab hbx
    refine bodyPost_ret (v:=.tuple #[.agg #[.int .i64 25,.int .i64 n,.string s,.slice (some ⟨bl,off,none⟩) ln c],.bool false]) (by simp[results,Tryz.results90,go_sem,y0,y1,y2,y3]) rfl ?_
    have hbb:=HB2.out.trans (hbl w.heap.size (by omega))
    exact⟨hbb,t,_,by rw[HF.out]; rfl,(HV.out.under hbb).old,fun x h=>by rw[HF.out] at h; cases h⟩
 ·have HF:=hid' (show Co.twice t=none by unfold Co.twice; rw[HOP.out]; exact if_neg (fun h'=>h h'.1))
  simp only[not_or] at h
  have q6:(op == 6)=false:=by simpa using h.1
  have q14:(op == 14)=false:=by simpa using h.2.1
  have q25:(op == 25)=false:=by simpa using h.2.2
  clear h
  go_quiet (fail)
  obtain⟨w2,hw2⟩:∃ w2,w2=w1.drewN nq:=⟨_,rfl⟩
  rw[←hw2]
  have hh:w2.heap=w1.heap:=by rw[hw2,zgp]
  have hB2:Below w.heap.size w w2:=by rw[hw2]; exact Below.drewn HB0.out nq
  have hr2:=HR0.out
  have hc2:=HC0.out
  rw[←hh] at hr2 hc2
  have HB2:=hid' hB2
  have HR2:=hid' hr2
  have HC2:=hid' hc2
  clear hB2 hr2 hc2 d0 d1 d2 d3
  obtain⟨d0,d1,d2,d3⟩:=zab HC2.out
  have HS:=hid' (set4 HR2.out (.int .i64 op) (.int .i64 n) (.string s) (.slice (some ⟨bl,off,none⟩) ln c))
  obtain⟨r0,r1,r2,r3⟩:=zab HR2.out
  have f0:∀ o,w2.frozen? ⟨w.heap.size+1,o,none⟩=false:=fun o=>Rw.frozen_of HR2.out
  clear hw2 hh
  go_wp2_with fail
  obtain⟨hbx,hbl⟩:=HS.out
  generalize World.setCell _ _ _=w9 at *
  obtain⟨y0,y1,y2,y3⟩:=zab hbx
  refine bodyPost_ret (v:=.tuple #[.agg #[.int .i64 op,.int .i64 n,.string s,.slice (some ⟨bl,off,none⟩) ln c],.bool false]) (by simp[results,Tryz.results90,go_sem,y0,y1,y2,y3]) rfl ?_
  have hbb:=HB2.out.trans (hbl w.heap.size (by omega))
  exact⟨hbb,t,_,by rw[HF.out]; rfl,(HV.out.under hbb).old,fun x h=>by rw[HF.out] at h; cases h⟩
end
section
open Go.RowKit
set_option maxRecDepth 100000
set_option maxHeartbeats 4000000 in
theorem zpu (ok:Nat→Prop)(t:Co.T)(v:Value)(w:World)(hv:CoreIn ok w t v)(hx:t.letter≠0)(h0:0<t.ks.length):
  Calls Tryz.prog 92 #[v] w (zeh ok (Co.settled t) w):=by
 obtain⟨op,n,s,p,ln,c,rfl,hop,hn,hs,hln⟩:=zbn hv
 have HV:=hid' hv
 obtain⟨bl,off,rfl,hrows⟩:=zfa hv h0
 have hb0:=heap_alloc_new w (.cells #[.int .i64 op,.int .i64 n,.string s,.slice (some ⟨bl,off,none⟩) ln c] 24)
 have hr0:=heap_alloc_new (w.alloc (.cells #[.int .i64 op,.int .i64 n,.string s,.slice (some ⟨bl,off,none⟩) ln c] 24)) (.cells #[.int .i64 0,.int .i64 0,.string ⟨#[]⟩,.slice none 0 0] 24)
 simp only[World.size_alloc] at hr0
 have hB0:Below w.heap.size w ((w.alloc (.cells #[.int .i64 op,.int .i64 n,.string s,.slice (some ⟨bl,off,none⟩) ln c] 24)).alloc (.cells #[.int .i64 0,.int .i64 0,.string ⟨#[]⟩,.slice none 0 0] 24)):=((Below.refl w.heap.size w).alloc (Nat.le_refl _) _).alloc (by simp) _
 have hc0:=(((Below.refl _ (w.alloc (.cells #[.int .i64 op,.int .i64 n,.string s,.slice (some ⟨bl,off,none⟩) ln c] 24))).alloc (Nat.le_refl _) (.cells #[.int .i64 0,.int .i64 0,.string ⟨#[]⟩,.slice none 0 0] 24)).block w.heap.size (by simp)).trans hb0
 have j0:(0:Int)<(ln:Int):=by omega
 have HOP:=hid' hop
 have HN:=hid' hn
 have HLN:=hid' hln
 have HROWS:=hid' hrows
 have HX:=hid' hx
 have H0:=hid' h0
 clear hb0 hop hn hs hln hrows hx h0 hv
 go_enter Tryz.func92,Tryz.ntmps92
 go_upto_region 1 with(fail)
 generalize World.alloc _ _=w1 at *
 have HB0:=hid' hB0
 have HR0:=hid' hr0
 have HC0:=hid' hc0
 obtain⟨k,kat⟩:∃ k,t.ks[0]? = some k:=⟨_,List.getElem?_eq_getElem H0.out⟩
 obtain⟨kop,kn,ks,kp,klen,kc,kH⟩:=HROWS.out 0 k kat
 have kK:=hid' (kH.below hB0)
 have kV:=hid' kH.val
 clear kH
 clear hr0 hB0
 obtain⟨d0,d1,d2,d3⟩:=zab HC0.out
 have KAT:=hid' kat
 clear hc0 kat
 have kx0:=kK.out.x0
 have kx1:=kK.out.x1
 have kx2:=kK.out.x2
 have kx3:=kK.out.x3
 simp only[Nat.zero_mul,Nat.add_zero,Nat.one_mul] at kx0 kx1 kx2 kx3
 go_wp2_with fail
 clear d0 d1 d2 d3 kx0 kx1 kx2 kx3
 have hB1:Below w1.heap.size w1 (w1.alloc (.cells #[.int .i64 kop,.int .i64 kn,.string ks,.slice kp klen kc] 24)):=(Below.refl _ _).alloc (Nat.le_refl _) _
 have HC1:=hid' ((hB1.block _ (zac HC0.out)).trans HC0.out)
 have HR1:=hid' ((hB1.block _ (zac HR0.out)).trans HR0.out)
 have HK1:=hid' (heap_alloc_new w1 (.cells #[.int .i64 kop,.int .i64 kn,.string ks,.slice kp klen kc] 24))
 have HB1:=hid' (HB0.out.trans (hB1.mono HB0.out.size))
 have hlt:=zac HR0.out
 obtain⟨kb,hkb⟩:∃ kb,kb=w1.heap.size:=⟨_,rfl⟩
 rw[←hkb] at HK1 hlt ⊢
 have HCN:=hid' (show w.heap.size≠w.heap.size+1 by omega)
 have HKN:=hid' (show kb≠w.heap.size+1 by omega)
 clear hB1 hkb
 generalize World.alloc w1 _=w2 at *
 have eK:t.kid 0=k:=by unfold Co.T.kid; rw[KAT.out]; rfl
 have HD:=hid' (show Co.settled t=if(op=15∧(kop == 2 && kn == 0)=true)∨(op=16∧(kop == 2 && kn == 1)=true)∨(op=25∧kop=23) then some k else none by
  unfold Co.settled Co.isBool
  rw[eK,HOP.out,kK.out.op',kK.out.n'])
 clear eK
 by_cases h15:op=15
 ·subst h15
  cases hg:(kop == 2 && kn == 0) with
  |true=>
   have HF:=hid' (show Co.settled t=some k by rw[HD.out]; simp[hg])
   refine zcm (fun d w'=>w2.grownBy w' (some (w.heap.size+1))∧w'.heap[w.heap.size+1]? = some (.cells (bif d then #[.int .i64 kop,.int .i64 kn,.string ks,.slice kp klen kc] else #[.int .i64 0,.int .i64 0,.string ⟨#[]⟩,.slice none 0 0]) 24 (0,0))) 27 (by kernel_rfl) (by kernel_rfl) (by kernel_rfl) (by kernel_rfl) (by decide) ⟨Rw.grown_of_below (Below.refl _ _).drew _,HR1.out⟩ ?_
   repeat (first
    |(refine zey ?_ ?_ ?_
      ·exact Option.some_ne_none _
      ·rfl
      simp only[Act.put,List.setIfInBounds_toArray,List.set_cons_zero,List.set_cons_succ])
    |(refine zei ?_ ?_ ?_ ?_
      ·rfl
      ·rfl
      ·(intro W hSw; obtain⟨d0,d1,d2,d3⟩:=zab (Rw.box_grown hSw.1 HCN.out HC1.out); obtain⟨e0,e1,e2,e3⟩:=zab (Rw.box_grown hSw.1 HKN.out HK1.out); obtain⟨r0,r1,r2,r3⟩:=zab hSw.2; have f0:∀ o,W.frozen? ⟨w.heap.size+1,o,none⟩=false:=fun o=>Rw.frozen_of hSw.2; refine⟨((((W.setCell ⟨(w.heap.size+1),0,none⟩ (.int .i64 kop)).setCell ⟨(w.heap.size+1),1,none⟩ (.int .i64 kn)).setCell ⟨(w.heap.size+1),2,none⟩ (.string ks)).setCell ⟨(w.heap.size+1),3,none⟩ (.slice kp klen kc)),?_,?_⟩; (focus (first|(go_simp; done)|(go_simp; with_reducible rfl))); exact⟨Rw.grown_trans hSw.1 (zdx W (w.heap.size+1) _ _ _ _),(set4 hSw.2 _ _ _ _).1⟩))
    |(apply zke 138 #[.agg #[.int .i64 kop,.int .i64 kn,.string ks,.slice kp klen kc],.int .i64 0]
      ·exact Option.some_ne_none _
      ·rfl
      ·(intro d W hSw; obtain⟨d0,d1,d2,d3⟩:=zab (Rw.box_grown hSw.1 HCN.out HC1.out); obtain⟨e0,e1,e2,e3⟩:=zab (Rw.box_grown hSw.1 HKN.out HK1.out); go_simp; done)
      ·(intro d W hSw; refine(zch _ _ 0 _ _ _ _ W).mono ?_; rintro e w'' ⟨rfl,b⟩; exact⟨by rw[hg],Rw.grown_trans hSw.1 (Rw.grown_of_below b _),(b.block _ (zac hSw.2)).trans hSw.2⟩)
      simp only[Act.put,List.setIfInBounds_toArray,List.set_cons_zero,List.set_cons_succ])
    |(apply zfz
      ·exact Option.some_ne_none _
      ·rfl
      ·(intro d W hSw; obtain⟨d0,d1,d2,d3⟩:=zab (Rw.box_grown hSw.1 HCN.out HC1.out); obtain⟨e0,e1,e2,e3⟩:=zab (Rw.box_grown hSw.1 HKN.out HK1.out); first|(go_simp; done)|(go_simp; with_reducible rfl))
      simp only[Act.put,List.setIfInBounds_toArray,List.set_cons_zero,List.set_cons_succ]))
   refine zga ?_
   intro w3 hS'
   obtain⟨hg3,hbx⟩:=hS'
   have hbb:=Rw.below_grown HB1.out hg3 (by omega) HB1.out.size
   obtain⟨y0,y1,y2,y3⟩:=zab hbx
   have HY:=hid' (And.intro y0 (And.intro y1 (And.intro y2 y3)))
   clear y0 y1 y2 y3 hbx hg3
   go_wp2_with fail
   obtain⟨y0,y1,y2,y3⟩:=HY.out
   refine bodyPost_ret (v:=.tuple #[.agg #[.int .i64 kop,.int .i64 kn,.string ks,.slice kp klen kc],.bool true]) (by simp[results,Tryz.results92,go_sem,y0,y1,y2,y3]) rfl ?_
   exact⟨hbb,k,_,by rw[HF.out]; rfl,(kV.out.under hbb).old,fun x h=>by rw[HF.out] at h; cases h; rfl⟩
  |false=>
   have HF:=hid' (show Co.settled t=none by rw[HD.out]; simp[hg])
   refine zcm (fun d w'=>w2.grownBy w' (some (w.heap.size+1))∧w'.heap[w.heap.size+1]? = some (.cells (bif d then #[.int .i64 kop,.int .i64 kn,.string ks,.slice kp klen kc] else #[.int .i64 0,.int .i64 0,.string ⟨#[]⟩,.slice none 0 0]) 24 (0,0))) 27 (by kernel_rfl) (by kernel_rfl) (by kernel_rfl) (by kernel_rfl) (by decide) ⟨Rw.grown_of_below (Below.refl _ _).drew _,HR1.out⟩ ?_
   repeat (first
    |(refine zey ?_ ?_ ?_
      ·exact Option.some_ne_none _
      ·rfl
      simp only[Act.put,List.setIfInBounds_toArray,List.set_cons_zero,List.set_cons_succ])
    |(refine zei ?_ ?_ ?_ ?_
      ·rfl
      ·rfl
      ·(intro W hSw; obtain⟨d0,d1,d2,d3⟩:=zab (Rw.box_grown hSw.1 HCN.out HC1.out); obtain⟨e0,e1,e2,e3⟩:=zab (Rw.box_grown hSw.1 HKN.out HK1.out); obtain⟨r0,r1,r2,r3⟩:=zab hSw.2; have f0:∀ o,W.frozen? ⟨w.heap.size+1,o,none⟩=false:=fun o=>Rw.frozen_of hSw.2; refine⟨((((W.setCell ⟨(w.heap.size+1),0,none⟩ (.int .i64 kop)).setCell ⟨(w.heap.size+1),1,none⟩ (.int .i64 kn)).setCell ⟨(w.heap.size+1),2,none⟩ (.string ks)).setCell ⟨(w.heap.size+1),3,none⟩ (.slice kp klen kc)),?_,?_⟩; (focus (first|(go_simp; done)|(go_simp; with_reducible rfl))); exact⟨Rw.grown_trans hSw.1 (zdx W (w.heap.size+1) _ _ _ _),(set4 hSw.2 _ _ _ _).1⟩))
    |(apply zke 138 #[.agg #[.int .i64 kop,.int .i64 kn,.string ks,.slice kp klen kc],.int .i64 0]
      ·exact Option.some_ne_none _
      ·rfl
      ·(intro d W hSw; obtain⟨d0,d1,d2,d3⟩:=zab (Rw.box_grown hSw.1 HCN.out HC1.out); obtain⟨e0,e1,e2,e3⟩:=zab (Rw.box_grown hSw.1 HKN.out HK1.out); go_simp; done)
      ·(intro d W hSw; refine(zch _ _ 0 _ _ _ _ W).mono ?_; rintro e w'' ⟨rfl,b⟩; exact⟨by rw[hg],Rw.grown_trans hSw.1 (Rw.grown_of_below b _),(b.block _ (zac hSw.2)).trans hSw.2⟩)
      simp only[Act.put,List.setIfInBounds_toArray,List.set_cons_zero,List.set_cons_succ])
    |(apply zfz
      ·exact Option.some_ne_none _
      ·rfl
      ·(intro d W hSw; obtain⟨d0,d1,d2,d3⟩:=zab (Rw.box_grown hSw.1 HCN.out HC1.out); obtain⟨e0,e1,e2,e3⟩:=zab (Rw.box_grown hSw.1 HKN.out HK1.out); first|(go_simp; done)|(go_simp; with_reducible rfl))
      simp only[Act.put,List.setIfInBounds_toArray,List.set_cons_zero,List.set_cons_succ]))
   refine zga ?_
   intro w3 hS'
   obtain⟨hg3,hbx⟩:=hS'
   have hbb:=Rw.below_grown HB1.out hg3 (by omega) HB1.out.size
   obtain⟨y0,y1,y2,y3⟩:=zab hbx
   have HY:=hid' (And.intro y0 (And.intro y1 (And.intro y2 y3)))
   clear y0 y1 y2 y3 hbx hg3
   go_wp2_with fail
   obtain⟨y0,y1,y2,y3⟩:=HY.out
   refine bodyPost_ret (v:=.tuple #[.agg #[.int .i64 kop,.int .i64 kn,.string ks,.slice kp klen kc],.bool false]) (by simp[results,Tryz.results92,go_sem,y0,y1,y2,y3]) rfl ?_
   exact⟨hbb,k,_,by rw[HF.out]; rfl,(kV.out.under hbb).old,fun x h=>by rw[HF.out] at h; cases h⟩
 by_cases h16:op=16
 ·subst h16
  cases hg:(kop == 2 && kn == 1) with
  |true=>
   have HF:=hid' (show Co.settled t=some k by rw[HD.out]; simp[hg])
   refine zcm (fun d w'=>w2.grownBy w' (some (w.heap.size+1))∧w'.heap[w.heap.size+1]? = some (.cells (bif d then #[.int .i64 kop,.int .i64 kn,.string ks,.slice kp klen kc] else #[.int .i64 0,.int .i64 0,.string ⟨#[]⟩,.slice none 0 0]) 24 (0,0))) 27 (by kernel_rfl) (by kernel_rfl) (by kernel_rfl) (by kernel_rfl) (by decide) ⟨Rw.grown_of_below (Below.refl _ _).drew _,HR1.out⟩ ?_
   repeat (first
    |(refine zey ?_ ?_ ?_
      ·exact Option.some_ne_none _
      ·rfl
      simp only[Act.put,List.setIfInBounds_toArray,List.set_cons_zero,List.set_cons_succ])
    |(refine zei ?_ ?_ ?_ ?_
      ·rfl
      ·rfl
      ·(intro W hSw; obtain⟨d0,d1,d2,d3⟩:=zab (Rw.box_grown hSw.1 HCN.out HC1.out); obtain⟨e0,e1,e2,e3⟩:=zab (Rw.box_grown hSw.1 HKN.out HK1.out); obtain⟨r0,r1,r2,r3⟩:=zab hSw.2; have f0:∀ o,W.frozen? ⟨w.heap.size+1,o,none⟩=false:=fun o=>Rw.frozen_of hSw.2; refine⟨((((W.setCell ⟨(w.heap.size+1),0,none⟩ (.int .i64 kop)).setCell ⟨(w.heap.size+1),1,none⟩ (.int .i64 kn)).setCell ⟨(w.heap.size+1),2,none⟩ (.string ks)).setCell ⟨(w.heap.size+1),3,none⟩ (.slice kp klen kc)),?_,?_⟩; (focus (first|(go_simp; done)|(go_simp; with_reducible rfl))); exact⟨Rw.grown_trans hSw.1 (zdx W (w.heap.size+1) _ _ _ _),(set4 hSw.2 _ _ _ _).1⟩))
    |(apply zke 138 #[.agg #[.int .i64 kop,.int .i64 kn,.string ks,.slice kp klen kc],.int .i64 1]
      ·exact Option.some_ne_none _
      ·rfl
      ·(intro d W hSw; obtain⟨d0,d1,d2,d3⟩:=zab (Rw.box_grown hSw.1 HCN.out HC1.out); obtain⟨e0,e1,e2,e3⟩:=zab (Rw.box_grown hSw.1 HKN.out HK1.out); go_simp; done)
      ·(intro d W hSw; refine(zch _ _ 1 _ _ _ _ W).mono ?_; rintro e w'' ⟨rfl,b⟩; exact⟨by rw[hg],Rw.grown_trans hSw.1 (Rw.grown_of_below b _),(b.block _ (zac hSw.2)).trans hSw.2⟩)
      simp only[Act.put,List.setIfInBounds_toArray,List.set_cons_zero,List.set_cons_succ])
    |(apply zfz
      ·exact Option.some_ne_none _
      ·rfl
      ·(intro d W hSw; obtain⟨d0,d1,d2,d3⟩:=zab (Rw.box_grown hSw.1 HCN.out HC1.out); obtain⟨e0,e1,e2,e3⟩:=zab (Rw.box_grown hSw.1 HKN.out HK1.out); first|(go_simp; done)|(go_simp; with_reducible rfl))
      simp only[Act.put,List.setIfInBounds_toArray,List.set_cons_zero,List.set_cons_succ]))
   refine zga ?_
   intro w3 hS'
   obtain⟨hg3,hbx⟩:=hS'
   have hbb:=Rw.below_grown HB1.out hg3 (by omega) HB1.out.size
   obtain⟨y0,y1,y2,y3⟩:=zab hbx
   have HY:=hid' (And.intro y0 (And.intro y1 (And.intro y2 y3)))
   clear y0 y1 y2 y3 hbx hg3
   go_wp2_with fail
   obtain⟨y0,y1,y2,y3⟩:=HY.out
   refine bodyPost_ret (v:=.tuple #[.agg #[.int .i64 kop,.int .i64 kn,.string ks,.slice kp klen kc],.bool true]) (by simp[results,Tryz.results92,go_sem,y0,y1,y2,y3]) rfl ?_
   exact⟨hbb,k,_,by rw[HF.out]; rfl,(kV.out.under hbb).old,fun x h=>by rw[HF.out] at h; cases h; rfl⟩
  |false=>
   have HF:=hid' (show Co.settled t=none by rw[HD.out]; simp[hg])
   refine zcm (fun d w'=>w2.grownBy w' (some (w.heap.size+1))∧w'.heap[w.heap.size+1]? = some (.cells (bif d then #[.int .i64 kop,.int .i64 kn,.string ks,.slice kp klen kc] else #[.int .i64 0,.int .i64 0,.string ⟨#[]⟩,.slice none 0 0]) 24 (0,0))) 27 (by kernel_rfl) (by kernel_rfl) (by kernel_rfl) (by kernel_rfl) (by decide) ⟨Rw.grown_of_below (Below.refl _ _).drew _,HR1.out⟩ ?_
   repeat (first
    |(refine zey ?_ ?_ ?_
      ·exact Option.some_ne_none _
      ·rfl
      simp only[Act.put,List.setIfInBounds_toArray,List.set_cons_zero,List.set_cons_succ])
    |(refine zei ?_ ?_ ?_ ?_
      ·rfl
      ·rfl
      ·(intro W hSw; obtain⟨d0,d1,d2,d3⟩:=zab (Rw.box_grown hSw.1 HCN.out HC1.out); obtain⟨e0,e1,e2,e3⟩:=zab (Rw.box_grown hSw.1 HKN.out HK1.out); obtain⟨r0,r1,r2,r3⟩:=zab hSw.2; have f0:∀ o,W.frozen? ⟨w.heap.size+1,o,none⟩=false:=fun o=>Rw.frozen_of hSw.2; refine⟨((((W.setCell ⟨(w.heap.size+1),0,none⟩ (.int .i64 kop)).setCell ⟨(w.heap.size+1),1,none⟩ (.int .i64 kn)).setCell ⟨(w.heap.size+1),2,none⟩ (.string ks)).setCell ⟨(w.heap.size+1),3,none⟩ (.slice kp klen kc)),?_,?_⟩; (focus (first|(go_simp; done)|(go_simp; with_reducible rfl))); exact⟨Rw.grown_trans hSw.1 (zdx W (w.heap.size+1) _ _ _ _),(set4 hSw.2 _ _ _ _).1⟩))
    |(apply zke 138 #[.agg #[.int .i64 kop,.int .i64 kn,.string ks,.slice kp klen kc],.int .i64 1]
      ·exact Option.some_ne_none _
      ·rfl
      ·(intro d W hSw; obtain⟨d0,d1,d2,d3⟩:=zab (Rw.box_grown hSw.1 HCN.out HC1.out); obtain⟨e0,e1,e2,e3⟩:=zab (Rw.box_grown hSw.1 HKN.out HK1.out); go_simp; done)
      ·(intro d W hSw; refine(zch _ _ 1 _ _ _ _ W).mono ?_; rintro e w'' ⟨rfl,b⟩; exact⟨by rw[hg],Rw.grown_trans hSw.1 (Rw.grown_of_below b _),(b.block _ (zac hSw.2)).trans hSw.2⟩)
      simp only[Act.put,List.setIfInBounds_toArray,List.set_cons_zero,List.set_cons_succ])
    |(apply zfz
      ·exact Option.some_ne_none _
      ·rfl
      ·(intro d W hSw; obtain⟨d0,d1,d2,d3⟩:=zab (Rw.box_grown hSw.1 HCN.out HC1.out); obtain⟨e0,e1,e2,e3⟩:=zab (Rw.box_grown hSw.1 HKN.out HK1.out); first|(go_simp; done)|(go_simp; with_reducible rfl))
      simp only[Act.put,List.setIfInBounds_toArray,List.set_cons_zero,List.set_cons_succ]))
   refine zga ?_
   intro w3 hS'
   obtain⟨hg3,hbx⟩:=hS'
   have hbb:=Rw.below_grown HB1.out hg3 (by omega) HB1.out.size
   obtain⟨y0,y1,y2,y3⟩:=zab hbx
   have HY:=hid' (And.intro y0 (And.intro y1 (And.intro y2 y3)))
   clear y0 y1 y2 y3 hbx hg3
   go_wp2_with fail
   obtain⟨y0,y1,y2,y3⟩:=HY.out
   refine bodyPost_ret (v:=.tuple #[.agg #[.int .i64 kop,.int .i64 kn,.string ks,.slice kp klen kc],.bool false]) (by simp[results,Tryz.results92,go_sem,y0,y1,y2,y3]) rfl ?_
   exact⟨hbb,k,_,by rw[HF.out]; rfl,(kV.out.under hbb).old,fun x h=>by rw[HF.out] at h; cases h⟩
 by_cases h25:op=25
 ·subst h25
  by_cases h23:kop=23
  ·have HF:=hid' (show Co.settled t=some k by rw[HD.out]; simp[h23])
   subst h23
   refine zcm (fun d w'=>w2.grownBy w' (some (w.heap.size+1))∧w'.heap[w.heap.size+1]? = some (.cells (bif d then #[.int .i64 23,.int .i64 kn,.string ks,.slice kp klen kc] else #[.int .i64 0,.int .i64 0,.string ⟨#[]⟩,.slice none 0 0]) 24 (0,0))) 27 (by kernel_rfl) (by kernel_rfl) (by kernel_rfl) (by kernel_rfl) (by decide) ⟨Rw.grown_of_below (Below.refl _ _).drew _,HR1.out⟩ ?_
   repeat (first
    |(refine zey ?_ ?_ ?_
      ·exact Option.some_ne_none _
      ·rfl
      simp only[Act.put,List.setIfInBounds_toArray,List.set_cons_zero,List.set_cons_succ])
    |(refine zei ?_ ?_ ?_ ?_
      ·rfl
      ·rfl
      ·(intro W hSw; obtain⟨d0,d1,d2,d3⟩:=zab (Rw.box_grown hSw.1 HCN.out HC1.out); obtain⟨e0,e1,e2,e3⟩:=zab (Rw.box_grown hSw.1 HKN.out HK1.out); obtain⟨r0,r1,r2,r3⟩:=zab hSw.2; have f0:∀ o,W.frozen? ⟨w.heap.size+1,o,none⟩=false:=fun o=>Rw.frozen_of hSw.2; refine⟨((((W.setCell ⟨(w.heap.size+1),0,none⟩ (.int .i64 23)).setCell ⟨(w.heap.size+1),1,none⟩ (.int .i64 kn)).setCell ⟨(w.heap.size+1),2,none⟩ (.string ks)).setCell ⟨(w.heap.size+1),3,none⟩ (.slice kp klen kc)),?_,?_⟩; (focus (first|(go_simp; done)|(go_simp; with_reducible rfl))); exact⟨Rw.grown_trans hSw.1 (zdx W (w.heap.size+1) _ _ _ _),(set4 hSw.2 _ _ _ _).1⟩))
    |(apply zfz
      ·exact Option.some_ne_none _
      ·rfl
      ·(intro d W hSw; obtain⟨d0,d1,d2,d3⟩:=zab (Rw.box_grown hSw.1 HCN.out HC1.out); obtain⟨e0,e1,e2,e3⟩:=zab (Rw.box_grown hSw.1 HKN.out HK1.out); first|(go_simp; done)|(go_simp; with_reducible rfl))
      simp only[Act.put,List.setIfInBounds_toArray,List.set_cons_zero,List.set_cons_succ]))
   refine zga ?_
   intro w3 hS'
   obtain⟨hg3,hbx⟩:=hS'
   have hbb:=Rw.below_grown HB1.out hg3 (by omega) HB1.out.size
   obtain⟨y0,y1,y2,y3⟩:=zab hbx
   have HY:=hid' (And.intro y0 (And.intro y1 (And.intro y2 y3)))
   clear y0 y1 y2 y3 hbx hg3
   go_wp2_with fail
   obtain⟨y0,y1,y2,y3⟩:=HY.out
   refine bodyPost_ret (v:=.tuple #[.agg #[.int .i64 23,.int .i64 kn,.string ks,.slice kp klen kc],.bool true]) (by simp[results,Tryz.results92,go_sem,y0,y1,y2,y3]) rfl ?_
   exact⟨hbb,k,_,by rw[HF.out]; rfl,(kV.out.under hbb).old,fun x h=>by rw[HF.out] at h; cases h; rfl⟩
  ·have HF:=hid' (show Co.settled t=none by rw[HD.out]; simp[h23])
   have g23:(kop == 23)=false:=by simpa using h23
   clear h23
   refine zcm (fun d w'=>w2.grownBy w' (some (w.heap.size+1))∧w'.heap[w.heap.size+1]? = some (.cells (bif d then #[.int .i64 kop,.int .i64 kn,.string ks,.slice kp klen kc] else #[.int .i64 0,.int .i64 0,.string ⟨#[]⟩,.slice none 0 0]) 24 (0,0))) 27 (by kernel_rfl) (by kernel_rfl) (by kernel_rfl) (by kernel_rfl) (by decide) ⟨Rw.grown_of_below (Below.refl _ _).drew _,HR1.out⟩ ?_
   repeat (first
    |(refine zey ?_ ?_ ?_
      ·exact Option.some_ne_none _
      ·rfl
      simp only[Act.put,List.setIfInBounds_toArray,List.set_cons_zero,List.set_cons_succ])
    |(refine zei ?_ ?_ ?_ ?_
      ·rfl
      ·rfl
      ·(intro W hSw; obtain⟨d0,d1,d2,d3⟩:=zab (Rw.box_grown hSw.1 HCN.out HC1.out); obtain⟨e0,e1,e2,e3⟩:=zab (Rw.box_grown hSw.1 HKN.out HK1.out); obtain⟨r0,r1,r2,r3⟩:=zab hSw.2; have f0:∀ o,W.frozen? ⟨w.heap.size+1,o,none⟩=false:=fun o=>Rw.frozen_of hSw.2; refine⟨((((W.setCell ⟨(w.heap.size+1),0,none⟩ (.int .i64 kop)).setCell ⟨(w.heap.size+1),1,none⟩ (.int .i64 kn)).setCell ⟨(w.heap.size+1),2,none⟩ (.string ks)).setCell ⟨(w.heap.size+1),3,none⟩ (.slice kp klen kc)),?_,?_⟩; (focus (first|(go_simp; done)|(go_simp; with_reducible rfl))); exact⟨Rw.grown_trans hSw.1 (zdx W (w.heap.size+1) _ _ _ _),(set4 hSw.2 _ _ _ _).1⟩))
    |(apply zfz
      ·exact Option.some_ne_none _
      ·rfl
      ·(intro d W hSw; obtain⟨d0,d1,d2,d3⟩:=zab (Rw.box_grown hSw.1 HCN.out HC1.out); obtain⟨e0,e1,e2,e3⟩:=zab (Rw.box_grown hSw.1 HKN.out HK1.out); first|(go_simp; done)|(go_simp; with_reducible rfl))
      simp only[Act.put,List.setIfInBounds_toArray,List.set_cons_zero,List.set_cons_succ]))
   refine zga ?_
   intro w3 hS'
   obtain⟨hg3,hbx⟩:=hS'
   have hbb:=Rw.below_grown HB1.out hg3 (by omega) HB1.out.size
   obtain⟨y0,y1,y2,y3⟩:=zab hbx
   have HY:=hid' (And.intro y0 (And.intro y1 (And.intro y2 y3)))
   clear y0 y1 y2 y3 hbx hg3
   go_wp2_with fail
   obtain⟨y0,y1,y2,y3⟩:=HY.out
   refine bodyPost_ret (v:=.tuple #[.agg #[.int .i64 kop,.int .i64 kn,.string ks,.slice kp klen kc],.bool false]) (by simp[results,Tryz.results92,go_sem,y0,y1,y2,y3]) rfl ?_
   exact⟨hbb,k,_,by rw[HF.out]; rfl,(kV.out.under hbb).old,fun x h=>by rw[HF.out] at h; cases h⟩
 ·have HF:=hid' (show Co.settled t=none by rw[HD.out]; simp[h15,h16,h25])
  have g15:(op == 15)=false:=by simpa using h15
  have g16:(op == 16)=false:=by simpa using h16
  have g25:(op == 25)=false:=by simpa using h25
  clear h15 h16 h25
  refine zcm (fun d w'=>w2.grownBy w' (some (w.heap.size+1))∧w'.heap[w.heap.size+1]? = some (.cells (bif d then #[.int .i64 kop,.int .i64 kn,.string ks,.slice kp klen kc] else #[.int .i64 0,.int .i64 0,.string ⟨#[]⟩,.slice none 0 0]) 24 (0,0))) 27 (by kernel_rfl) (by kernel_rfl) (by kernel_rfl) (by kernel_rfl) (by decide) ⟨Rw.grown_of_below (Below.refl _ _).drew _,HR1.out⟩ ?_
  repeat (first
   |(refine zey ?_ ?_ ?_
     ·exact Option.some_ne_none _
     ·rfl
     simp only[Act.put,List.setIfInBounds_toArray,List.set_cons_zero,List.set_cons_succ])
   |(refine zei ?_ ?_ ?_ ?_
     ·rfl
     ·rfl
     ·(intro W hSw; obtain⟨d0,d1,d2,d3⟩:=zab (Rw.box_grown hSw.1 HCN.out HC1.out); obtain⟨e0,e1,e2,e3⟩:=zab (Rw.box_grown hSw.1 HKN.out HK1.out); obtain⟨r0,r1,r2,r3⟩:=zab hSw.2; have f0:∀ o,W.frozen? ⟨w.heap.size+1,o,none⟩=false:=fun o=>Rw.frozen_of hSw.2; refine⟨((((W.setCell ⟨(w.heap.size+1),0,none⟩ (.int .i64 kop)).setCell ⟨(w.heap.size+1),1,none⟩ (.int .i64 kn)).setCell ⟨(w.heap.size+1),2,none⟩ (.string ks)).setCell ⟨(w.heap.size+1),3,none⟩ (.slice kp klen kc)),?_,?_⟩; (focus (first|(go_simp; done)|(go_simp; with_reducible rfl))); exact⟨Rw.grown_trans hSw.1 (zdx W (w.heap.size+1) _ _ _ _),(set4 hSw.2 _ _ _ _).1⟩))
   |(apply zfz
     ·exact Option.some_ne_none _
     ·rfl
     ·(intro d W hSw; obtain⟨d0,d1,d2,d3⟩:=zab (Rw.box_grown hSw.1 HCN.out HC1.out); obtain⟨e0,e1,e2,e3⟩:=zab (Rw.box_grown hSw.1 HKN.out HK1.out); first|(go_simp; done)|(go_simp; with_reducible rfl))
     simp only[Act.put,List.setIfInBounds_toArray,List.set_cons_zero,List.set_cons_succ]))
  refine zga ?_
  intro w3 hS'
  obtain⟨hg3,hbx⟩:=hS'
  have hbb:=Rw.below_grown HB1.out hg3 (by omega) HB1.out.size
  obtain⟨y0,y1,y2,y3⟩:=zab hbx
  have HY:=hid' (And.intro y0 (And.intro y1 (And.intro y2 y3)))
  clear y0 y1 y2 y3 hbx hg3
  go_wp2_with fail
  obtain⟨y0,y1,y2,y3⟩:=HY.out
  refine bodyPost_ret (v:=.tuple #[.agg #[.int .i64 kop,.int .i64 kn,.string ks,.slice kp klen kc],.bool false]) (by simp[results,Tryz.results92,go_sem,y0,y1,y2,y3]) rfl ?_
  exact⟨hbb,k,_,by rw[HF.out]; rfl,(kV.out.under hbb).old,fun x h=>by rw[HF.out] at h; cases h⟩
end
section
open Go.RowKit
set_option maxRecDepth 100000
theorem zic {W W':World}{b o B:Nat}{v:Value}(g:W.grownBy W' (some B))(hne:b≠B)(h:W.cell? ⟨b,o,none⟩=some v):W'.cell? ⟨b,o,none⟩=some v:=by
 have hl:=World.block_lt_of_cell? W _ h
 have hg:=g.block b hl (fun e=>by cases e; exact hne rfl)
 unfold World.cell? at *
 simp only at *
 rw[hg]
 exact h
theorem zuv {ok:Nat→Prop}{W:World}{t k:Co.T}{op n:Int}{s:ByteArray}{p:Option Addr}{len c:Nat}{kop kn:Int}{ks:ByteArray}{kp:Option Addr}{klen kc:Nat}(ht:CoreIn ok W t (.agg #[.int .i64 op,.int .i64 n,.string s,.slice p len c]))
  (hk:CoreIn ok W k (.agg #[.int .i64 kop,.int .i64 kn,.string ks,.slice kp klen kc])) (hl:k.ks.length=klen) (hn:t.n=n):CoreIn ok W (.mk 29 (max n kn) ⟨#[]⟩ k.ks) (.agg #[.int .i64 29,.int .i64 (max n kn),.string ⟨#[]⟩,.slice kp klen kc]):=by
 obtain⟨p',c',e,hc,ho,hn',hs,hkk⟩:=hk.open
 obtain⟨_,_,_,_,_,htn,_,_⟩:=ht.open
 have e1:kn=k.n∧kp=p'∧kc=c':=by simp at e; exact⟨e.2.1,e.2.2.2.1,e.2.2.2.2.2⟩
 obtain⟨rfl,rfl,rfl⟩:=e1
 subst hl
 refine CoreIn.close hc (by unfold I64; omega) ?_ (by decide) hkk
 rw[hn] at htn
 unfold I64 at *
 omega
set_option maxHeartbeats 4000000 in
theorem zsv (ok:Nat→Prop)(t:Co.T)(v:Value)(w:World)(hv:CoreIn ok w t v)(hx:t.letter≠0)(h0:0<t.ks.length):
  Calls Tryz.prog 93 #[v] w (zeh ok (Co.later t) w):=by
 obtain⟨op,n,s,p,ln,c,rfl,hop,hn,hs,hln⟩:=zbn hv
 have HV:=hid' hv
 obtain⟨bl,off,rfl,hrows⟩:=zfa hv h0
 have hb0:=heap_alloc_new w (.cells #[.int .i64 op,.int .i64 n,.string s,.slice (some ⟨bl,off,none⟩) ln c] 24)
 have hr0:=heap_alloc_new (w.alloc (.cells #[.int .i64 op,.int .i64 n,.string s,.slice (some ⟨bl,off,none⟩) ln c] 24)) (.cells #[.int .i64 0,.int .i64 0,.string ⟨#[]⟩,.slice none 0 0] 24)
 simp only[World.size_alloc] at hr0
 have hB0:Below w.heap.size w ((w.alloc (.cells #[.int .i64 op,.int .i64 n,.string s,.slice (some ⟨bl,off,none⟩) ln c] 24)).alloc (.cells #[.int .i64 0,.int .i64 0,.string ⟨#[]⟩,.slice none 0 0] 24)):=((Below.refl w.heap.size w).alloc (Nat.le_refl _) _).alloc (by simp) _
 have hc0:=(((Below.refl _ (w.alloc (.cells #[.int .i64 op,.int .i64 n,.string s,.slice (some ⟨bl,off,none⟩) ln c] 24))).alloc (Nat.le_refl _) (.cells #[.int .i64 0,.int .i64 0,.string ⟨#[]⟩,.slice none 0 0] 24)).block w.heap.size (by simp)).trans hb0
 have j0:(0:Int)<(ln:Int):=by omega
 have HOP:=hid' hop
 have HN:=hid' hn
 have HLN:=hid' hln
 have HROWS:=hid' hrows
 have HX:=hid' hx
 have H0:=hid' h0
 clear hb0 hop hn hs hln hrows hx h0 hv
 go_enter Tryz.func93,Tryz.ntmps93
 go_upto_region 1 with(fail)
 generalize World.alloc _ _=w1 at *
 have HB0:=hid' hB0
 have HR0:=hid' hr0
 have HC0:=hid' hc0
 obtain⟨k,kat⟩:∃ k,t.ks[0]? = some k:=⟨_,List.getElem?_eq_getElem H0.out⟩
 obtain⟨kop,kn,ks,kp,klen,kc,kH⟩:=HROWS.out 0 k kat
 have kK:=hid' (kH.below hB0)
 have kV:=hid' kH.val
 have kLT:=hid' kH.lt
 clear kH
 clear hr0 hB0
 obtain⟨d0,d1,d2,d3⟩:=zab HC0.out
 have KAT:=hid' kat
 clear hc0 kat
 have kx0:=kK.out.x0
 have kx1:=kK.out.x1
 have kx2:=kK.out.x2
 have kx3:=kK.out.x3
 simp only[Nat.zero_mul,Nat.add_zero,Nat.one_mul] at kx0 kx1 kx2 kx3
 have eK:t.kid 0=k:=by unfold Co.T.kid; rw[KAT.out]; rfl
 have HD:=hid' (show Co.later t=if op=29∧kop=29 then some (.mk 29 (max n kn) ⟨#[]⟩ k.ks) else none by
  unfold Co.later
  rw[eK,HOP.out,HN.out,kK.out.op',kK.out.n'])
 clear eK
 by_cases h:op=29
 ·subst h
  by_cases hk:kop=29
  ·subst hk
   have HF:=hid' (show Co.later t=some (.mk 29 (max n kn) ⟨#[]⟩ k.ks) by rw[HD.out]; exact if_pos ⟨rfl,rfl⟩)
   go_upto_region 3 with(fail)
   have HKX:=hid' (And.intro kK.out.lt (And.intro kx1 kx3))
   clear d0 d1 d2 d3 kx0 kx1 kx2 kx3
   have HCN:=hid' (show w.heap.size≠w.heap.size+1 by omega)
   have HBN:=hid' (show bl≠w.heap.size+1 by have h5:=kLT.out; omega)
   refine zcm (fun d w'=>w1.grownBy w' (some (w.heap.size+1))∧w'.heap[w.heap.size+1]? = some (.cells (bif d then #[.int .i64 29,.int .i64 (max n kn),.string ⟨#[]⟩,.slice kp klen kc] else #[.int .i64 0,.int .i64 0,.string ⟨#[]⟩,.slice none 0 0]) 24 (0,0))) 14 (by kernel_rfl) (by kernel_rfl) (by kernel_rfl) (by kernel_rfl) (by decide) ⟨Rw.grown_of_below (Below.refl _ _).drew _,HR0.out⟩ ?_
   repeat (first
    |(refine zey ?_ ?_ ?_
      ·exact Option.some_ne_none _
      ·rfl
      simp only[Act.put,List.setIfInBounds_toArray,List.set_cons_zero,List.set_cons_succ])
    |(refine zei ?_ ?_ ?_ ?_
      ·rfl
      ·rfl
      ·(intro W hSw; have j0n:0<ln:=(by omega); obtain⟨d0,d1,d2,d3⟩:=zab (Rw.box_grown hSw.1 HCN.out HC0.out); have kx1:=zic hSw.1 HBN.out HKX.out.2.1; have kx3:=zic hSw.1 HBN.out HKX.out.2.2; obtain⟨r0,r1,r2,r3⟩:=zab hSw.2; have f0:∀ o,W.frozen? ⟨w.heap.size+1,o,none⟩=false:=fun o=>Rw.frozen_of hSw.2; refine⟨((((W.setCell ⟨(w.heap.size+1),0,none⟩ (.int .i64 29)).setCell ⟨(w.heap.size+1),1,none⟩ (.int .i64 (max n kn))).setCell ⟨(w.heap.size+1),2,none⟩ (.string ⟨#[]⟩)).setCell ⟨(w.heap.size+1),3,none⟩ (.slice kp klen kc)),?_,?_⟩; (focus (first|(go_simp; done)|(go_simp; with_reducible rfl))); exact⟨Rw.grown_trans hSw.1 (zdx W (w.heap.size+1) _ _ _ _),(set4 hSw.2 _ _ _ _).1⟩))
    |(apply zfz
      ·exact Option.some_ne_none _
      ·rfl
      ·(intro d W hSw; have j0n:0<ln:=(by omega); obtain⟨d0,d1,d2,d3⟩:=zab (Rw.box_grown hSw.1 HCN.out HC0.out); have kx1:=zic hSw.1 HBN.out HKX.out.2.1; have kx3:=zic hSw.1 HBN.out HKX.out.2.2; first|(go_simp; done)|(go_simp; with_reducible rfl))
      simp only[Act.put,List.setIfInBounds_toArray,List.set_cons_zero,List.set_cons_succ]))
   refine zga ?_
   intro w3 hS'
   obtain⟨hg3,hbx⟩:=hS'
   have hbb:=Rw.below_grown HB0.out hg3 (by omega) HB0.out.size
   obtain⟨y0,y1,y2,y3⟩:=zab hbx
   have HY:=hid' (And.intro y0 (And.intro y1 (And.intro y2 y3)))
   clear y0 y1 y2 y3 hbx hg3
   go_wp2_with fail
   obtain⟨y0,y1,y2,y3⟩:=HY.out
   refine bodyPost_ret (v:=.tuple #[.agg #[.int .i64 29,.int .i64 (max n kn),.string ⟨#[]⟩,.slice kp klen kc],.bool true]) (by simp[results,Tryz.results93,go_sem,y0,y1,y2,y3]) rfl ?_
   refine⟨hbb,_,_,by rw[HF.out]; rfl,?_,fun x h=>by rw[HF.out] at h; cases h; rfl⟩
   exact((zuv HV.out kV.out kK.out.len' HN.out).under hbb).old
  ·have HF:=hid' (show Co.later t=none by rw[HD.out]; exact if_neg (fun h=>hk h.2))
   have gk:(kop != 29)=true:=by simpa using hk
   clear hk
   have HS:=hid' (set4 HR0.out (.int .i64 29) (.int .i64 n) (.string s) (.slice (some ⟨bl,off,none⟩) ln c))
   obtain⟨r0,r1,r2,r3⟩:=zab HR0.out
   have f0:∀ o,w1.frozen? ⟨w.heap.size+1,o,none⟩=false:=fun o=>Rw.frozen_of HR0.out
   go_wp2_with fail
   obtain⟨hbx,hbl⟩:=HS.out
   generalize World.setCell _ _ _=w9 at *
   obtain⟨y0,y1,y2,y3⟩:=zab hbx
   refine bodyPost_ret (v:=.tuple #[.agg #[.int .i64 29,.int .i64 n,.string s,.slice (some ⟨bl,off,none⟩) ln c],.bool false]) (by simp[results,Tryz.results93,go_sem,y0,y1,y2,y3]) rfl ?_
   have hbb:=HB0.out.trans (hbl w.heap.size (by omega))
   exact⟨hbb,t,_,by rw[HF.out]; rfl,(HV.out.under hbb).old,fun x h=>by rw[HF.out] at h; cases h⟩
 ·have HF:=hid' (show Co.later t=none by rw[HD.out]; exact if_neg (fun h'=>h h'.1))
  have gk:(op != 29)=true:=by simpa using h
  clear h
  have HS:=hid' (set4 HR0.out (.int .i64 op) (.int .i64 n) (.string s) (.slice (some ⟨bl,off,none⟩) ln c))
  obtain⟨r0,r1,r2,r3⟩:=zab HR0.out
  have f0:∀ o,w1.frozen? ⟨w.heap.size+1,o,none⟩=false:=fun o=>Rw.frozen_of HR0.out
  go_wp2_with fail
  obtain⟨hbx,hbl⟩:=HS.out
  generalize World.setCell _ _ _=w9 at *
  obtain⟨y0,y1,y2,y3⟩:=zab hbx
  refine bodyPost_ret (v:=.tuple #[.agg #[.int .i64 op,.int .i64 n,.string s,.slice (some ⟨bl,off,none⟩) ln c],.bool false]) (by simp[results,Tryz.results93,go_sem,y0,y1,y2,y3]) rfl ?_
  have hbb:=HB0.out.trans (hbl w.heap.size (by omega))
  exact⟨hbb,t,_,by rw[HF.out]; rfl,(HV.out.under hbb).old,fun x h=>by rw[HF.out] at h; cases h⟩
end
section
open Go.RowKit
set_option maxRecDepth 100000
theorem Co.chosen_kids {t:Co.T}(h:t.op=22∨t.op=28)(h2:(t.kid 0).op=2)(hx:t.letter≠0):∃ i j,(((t.kid 0).n=1∧i=1)∨((t.kid 0).n=0∧i=2))∧t.ks[i]? = some j∧t.kid (2 - (t.kid 0).n).toNat=j:=by
 have h3:∃ k j i,t.ks=[k,j,i]∧k.letter=98∧t.kid 0=k∧t.kid 1=j∧t.kid 2=i:=by
  rcases h with e|e
  ·obtain⟨o,n,s,ks⟩:=t
   have ee:o=22:=e
   subst ee
   obtain⟨a,b,c,rfl,l1, -⟩:=(Co.letter_22 hx).1 rfl
   exact⟨a,b,c,rfl,l1,rfl,rfl,rfl⟩
  ·obtain⟨h1, -, -⟩:=Co.open_kids (t:=t) (by rw[e]; decide) (by rw[e]; exact Co.want_28) hx
   obtain⟨k,j,i,a1,a2,a3,a4,a5⟩:=Co.three_kids h1
   exact⟨k,j,i,a1,a2.1,a3,a4,a5⟩
 obtain⟨k,j,i,a1,l1,a3,a4,a5⟩:=h3
 rw[a3] at h2 ⊢
 obtain⟨-, -,hf⟩:=Co.open_kids (t:=k) (by rw[h2]; decide) (by rw[h2]; exact Co.want_2) (by rw[l1]; decide)
 rw[h2] at hf
 rcases Co.bool_of hf with e|e
 ·exact⟨2,i,.inr ⟨e,rfl⟩,by rw[a1]; rfl,by rw[e]; exact a5⟩
 ·exact⟨1,j,.inl ⟨e,rfl⟩,by rw[a1]; rfl,by rw[e]; exact a4⟩
set_option maxHeartbeats 4000000 in
theorem zrr (ok:Nat→Prop)(t:Co.T)(v:Value)(w:World)(hv:CoreIn ok w t v)(hx:t.letter≠0)(h0:0<t.ks.length):
  Calls Tryz.prog 94 #[v] w (zeh ok (Co.chosen t) w):=by
 obtain⟨op,n,s,p,ln,c,rfl,hop,hn,hs,hln⟩:=zbn hv
 have HV:=hid' hv
 obtain⟨bl,off,rfl,hrows⟩:=zfa hv h0
 have hb0:=heap_alloc_new w (.cells #[.int .i64 op,.int .i64 n,.string s,.slice (some ⟨bl,off,none⟩) ln c] 24)
 have hr0:=heap_alloc_new (w.alloc (.cells #[.int .i64 op,.int .i64 n,.string s,.slice (some ⟨bl,off,none⟩) ln c] 24)) (.cells #[.int .i64 0,.int .i64 0,.string ⟨#[]⟩,.slice none 0 0] 24)
 simp only[World.size_alloc] at hr0
 have hB0:Below w.heap.size w ((w.alloc (.cells #[.int .i64 op,.int .i64 n,.string s,.slice (some ⟨bl,off,none⟩) ln c] 24)).alloc (.cells #[.int .i64 0,.int .i64 0,.string ⟨#[]⟩,.slice none 0 0] 24)):=((Below.refl w.heap.size w).alloc (Nat.le_refl _) _).alloc (by simp) _
 have hc0:=(((Below.refl _ (w.alloc (.cells #[.int .i64 op,.int .i64 n,.string s,.slice (some ⟨bl,off,none⟩) ln c] 24))).alloc (Nat.le_refl _) (.cells #[.int .i64 0,.int .i64 0,.string ⟨#[]⟩,.slice none 0 0] 24)).block w.heap.size (by simp)).trans hb0
 have j0:(0:Int)<(ln:Int):=by omega
 have HOP:=hid' hop
 have HN:=hid' hn
 have HLN:=hid' hln
 have HROWS:=hid' hrows
 have HX:=hid' hx
 have H0:=hid' h0
 clear hb0 hop hn hs hln hrows hx h0 hv
 go_enter Tryz.func94,Tryz.ntmps94
 go_upto_region 1 with(fail)
 generalize World.alloc _ _=w1 at *
 have HB0:=hid' hB0
 have HR0:=hid' hr0
 have HC0:=hid' hc0
 obtain⟨k,kat⟩:∃ k,t.ks[0]? = some k:=⟨_,List.getElem?_eq_getElem H0.out⟩
 obtain⟨kop,kn,ks,kp,klen,kc,kH⟩:=HROWS.out 0 k kat
 have kK:=hid' (kH.below hB0)
 have kV:=hid' kH.val
 clear kH
 clear hr0 hB0
 obtain⟨d0,d1,d2,d3⟩:=zab HC0.out
 have KAT:=hid' kat
 clear hc0 kat
 have kx0:=kK.out.x0
 have kx1:=kK.out.x1
 have kx2:=kK.out.x2
 have kx3:=kK.out.x3
 simp only[Nat.zero_mul,Nat.add_zero,Nat.one_mul] at kx0 kx1 kx2 kx3
 go_upto_region 2 with(fail)
 clear d0 d1 d2 d3 kx0 kx1 kx2 kx3
 have hB1:Below w1.heap.size w1 (w1.alloc (.cells #[.int .i64 kop,.int .i64 kn,.string ks,.slice kp klen kc] 24)):=(Below.refl _ _).alloc (Nat.le_refl _) _
 have HC1:=hid' ((hB1.block _ (zac HC0.out)).trans HC0.out)
 have HR1:=hid' ((hB1.block _ (zac HR0.out)).trans HR0.out)
 have HK1:=hid' (heap_alloc_new w1 (.cells #[.int .i64 kop,.int .i64 kn,.string ks,.slice kp klen kc] 24))
 have HB1:=hid' (HB0.out.trans (hB1.mono HB0.out.size))
 have hlt:=zac HR0.out
 obtain⟨kb,hkb⟩:∃ kb,kb=w1.heap.size:=⟨_,rfl⟩
 rw[←hkb] at HK1 hlt ⊢
 have HCN:=hid' (show w.heap.size≠w.heap.size+1 by omega)
 have HKN:=hid' (show kb≠w.heap.size+1 by omega)
 clear hB1 hkb
 generalize World.alloc w1 _=w2 at *
 have eK:t.kid 0=k:=by unfold Co.T.kid; rw[KAT.out]; rfl
 have HD:=hid' (show Co.chosen t=if(op=22∨op=28)∧kop=2 then some (t.kid (2 - kn).toNat) else none by
  unfold Co.chosen
  rw[eK,HOP.out,kK.out.op',kK.out.n'])
 obtain⟨d0,d1,d2,d3⟩:=zab HC1.out
 obtain⟨e0,e1,e2,e3⟩:=zab HK1.out
 by_cases h:op=22∨op=28
 ·by_cases hk2:kop=2
  ·subst hk2
   have h3:=Co.chosen_kids (by rw[HOP.out]; exact h) (by rw[eK,kK.out.op']) HX.out
   rw[eK,kK.out.n'] at h3
   obtain⟨i,j,hi,hj,hkj⟩:=h3
   obtain⟨jop,jn,js,jp,jlen,jc,jH⟩:=HROWS.out i j hj
   have jV:=hid' jH.val
   have JK:=hid' (jH.below HB1.out)
   have HF:=hid' (show Co.chosen t=some j by rw[HD.out,if_pos ⟨h,rfl⟩,hkj])
   have hil:i<ln:=by rw[←HLN.out]; exact(List.getElem?_eq_some_iff.1 hj).1
   clear hj hkj jH eK
   have jx0:=JK.out.x0
   have jx1:=JK.out.x1
   have jx2:=JK.out.x2
   have jx3:=JK.out.x3
   rcases h with rfl|rfl
   ·rcases hi with⟨rfl,rfl⟩|⟨rfl,rfl⟩
    ·have j1:((1:Nat):Int)<(ln:Int):=by omega
     have j2:(1:Int)<(ln:Int):=by omega
     have j3:IntKind.i64.wrap (2 - 1)=1:=by decide
     simp only[Nat.reduceMul] at jx0 jx1 jx2 jx3
     have HS:=hid' (set4 HR1.out (.int .i64 jop) (.int .i64 jn) (.string js) (.slice jp jlen jc))
     obtain⟨r0,r1,r2,r3⟩:=zab HR1.out
     have f0:∀ o,w2.frozen? ⟨w.heap.size+1,o,none⟩=false:=fun o=>Rw.frozen_of HR1.out
     go_wp2_with fail
     obtain⟨hbx,hbl⟩:=HS.out
     generalize World.setCell _ _ _=w9 at *
     obtain⟨y0,y1,y2,y3⟩:=zab hbx
     refine bodyPost_ret (v:=.tuple #[.agg #[.int .i64 jop,.int .i64 jn,.string js,.slice jp jlen jc],.bool true]) (by simp[results,Tryz.results94,go_sem,y0,y1,y2,y3]) rfl ?_
     have hbb:=HB1.out.trans (hbl w.heap.size (by omega))
     exact⟨hbb,j,_,by rw[HF.out]; rfl,(jV.out.under hbb).old,fun x h=>by rw[HF.out] at h; cases h; rfl⟩
    ·have j1:((2:Nat):Int)<(ln:Int):=by omega
     have j2:(2:Int)<(ln:Int):=by omega
     have j3:IntKind.i64.wrap (2 - 0)=2:=by decide
     simp only[Nat.reduceMul] at jx0 jx1 jx2 jx3
     have HS:=hid' (set4 HR1.out (.int .i64 jop) (.int .i64 jn) (.string js) (.slice jp jlen jc))
     obtain⟨r0,r1,r2,r3⟩:=zab HR1.out
     have f0:∀ o,w2.frozen? ⟨w.heap.size+1,o,none⟩=false:=fun o=>Rw.frozen_of HR1.out
     go_wp2_with fail
     obtain⟨hbx,hbl⟩:=HS.out
     generalize World.setCell _ _ _=w9 at *
     obtain⟨y0,y1,y2,y3⟩:=zab hbx
     refine bodyPost_ret (v:=.tuple #[.agg #[.int .i64 jop,.int .i64 jn,.string js,.slice jp jlen jc],.bool true]) (by simp[results,Tryz.results94,go_sem,y0,y1,y2,y3]) rfl ?_
     have hbb:=HB1.out.trans (hbl w.heap.size (by omega))
     exact⟨hbb,j,_,by rw[HF.out]; rfl,(jV.out.under hbb).old,fun x h=>by rw[HF.out] at h; cases h; rfl⟩
   ·rcases hi with⟨rfl,rfl⟩|⟨rfl,rfl⟩
    ·have j1:((1:Nat):Int)<(ln:Int):=by omega
     have j2:(1:Int)<(ln:Int):=by omega
     have j3:IntKind.i64.wrap (2 - 1)=1:=by decide
     simp only[Nat.reduceMul] at jx0 jx1 jx2 jx3
     have HS:=hid' (set4 HR1.out (.int .i64 jop) (.int .i64 jn) (.string js) (.slice jp jlen jc))
     obtain⟨r0,r1,r2,r3⟩:=zab HR1.out
     have f0:∀ o,w2.frozen? ⟨w.heap.size+1,o,none⟩=false:=fun o=>Rw.frozen_of HR1.out
     go_wp2_with fail
     obtain⟨hbx,hbl⟩:=HS.out
     generalize World.setCell _ _ _=w9 at *
     obtain⟨y0,y1,y2,y3⟩:=zab hbx
     refine bodyPost_ret (v:=.tuple #[.agg #[.int .i64 jop,.int .i64 jn,.string js,.slice jp jlen jc],.bool true]) (by simp[results,Tryz.results94,go_sem,y0,y1,y2,y3]) rfl ?_
     have hbb:=HB1.out.trans (hbl w.heap.size (by omega))
     exact⟨hbb,j,_,by rw[HF.out]; rfl,(jV.out.under hbb).old,fun x h=>by rw[HF.out] at h; cases h; rfl⟩
    ·have j1:((2:Nat):Int)<(ln:Int):=by omega
     have j2:(2:Int)<(ln:Int):=by omega
     have j3:IntKind.i64.wrap (2 - 0)=2:=by decide
     simp only[Nat.reduceMul] at jx0 jx1 jx2 jx3
     have HS:=hid' (set4 HR1.out (.int .i64 jop) (.int .i64 jn) (.string js) (.slice jp jlen jc))
     obtain⟨r0,r1,r2,r3⟩:=zab HR1.out
     have f0:∀ o,w2.frozen? ⟨w.heap.size+1,o,none⟩=false:=fun o=>Rw.frozen_of HR1.out
     go_wp2_with fail
     obtain⟨hbx,hbl⟩:=HS.out
     generalize World.setCell _ _ _=w9 at *
     obtain⟨y0,y1,y2,y3⟩:=zab hbx
     refine bodyPost_ret (v:=.tuple #[.agg #[.int .i64 jop,.int .i64 jn,.string js,.slice jp jlen jc],.bool true]) (by simp[results,Tryz.results94,go_sem,y0,y1,y2,y3]) rfl ?_
     have hbb:=HB1.out.trans (hbl w.heap.size (by omega))
     exact⟨hbb,j,_,by rw[HF.out]; rfl,(jV.out.under hbb).old,fun x h=>by rw[HF.out] at h; cases h; rfl⟩
  ·have HF:=hid' (show Co.chosen t=none by rw[HD.out]; exact if_neg (fun h=>hk2 h.2))
   have gk:(kop != 2)=true:=by simpa using hk2
   clear hk2 eK
   rcases h with rfl|rfl
   ·skip
    have HS:=hid' (set4 HR1.out (.int .i64 22) (.int .i64 n) (.string s) (.slice (some ⟨bl,off,none⟩) ln c))
    obtain⟨r0,r1,r2,r3⟩:=zab HR1.out
    have f0:∀ o,w2.frozen? ⟨w.heap.size+1,o,none⟩=false:=fun o=>Rw.frozen_of HR1.out
    go_wp2_with fail
    obtain⟨hbx,hbl⟩:=HS.out
    generalize World.setCell _ _ _=w9 at *
    obtain⟨y0,y1,y2,y3⟩:=zab hbx
    refine bodyPost_ret (v:=.tuple #[.agg #[.int .i64 22,.int .i64 n,.string s,.slice (some ⟨bl,off,none⟩) ln c],.bool false]) (by simp[results,Tryz.results94,go_sem,y0,y1,y2,y3]) rfl ?_
    have hbb:=HB1.out.trans (hbl w.heap.size (by omega))
    exact⟨hbb,t,_,by rw[HF.out]; rfl,(HV.out.under hbb).old,fun x h=>by rw[HF.out] at h; cases h⟩
   ·skip
    have HS:=hid' (set4 HR1.out (.int .i64 28) (.int .i64 n) (.string s) (.slice (some ⟨bl,off,none⟩) ln c))
    obtain⟨r0,r1,r2,r3⟩:=zab HR1.out
    have f0:∀ o,w2.frozen? ⟨w.heap.size+1,o,none⟩=false:=fun o=>Rw.frozen_of HR1.out
    go_wp2_with fail
    obtain⟨hbx,hbl⟩:=HS.out
    generalize World.setCell _ _ _=w9 at *
    obtain⟨y0,y1,y2,y3⟩:=zab hbx
    refine bodyPost_ret (v:=.tuple #[.agg #[.int .i64 28,.int .i64 n,.string s,.slice (some ⟨bl,off,none⟩) ln c],.bool false]) (by simp[results,Tryz.results94,go_sem,y0,y1,y2,y3]) rfl ?_
    have hbb:=HB1.out.trans (hbl w.heap.size (by omega))
    exact⟨hbb,t,_,by rw[HF.out]; rfl,(HV.out.under hbb).old,fun x h=>by rw[HF.out] at h; cases h⟩
 ·have HF:=hid' (show Co.chosen t=none by rw[HD.out]; exact if_neg (fun h'=>h h'.1))
  simp only[not_or] at h
  have q22:(op != 22)=true:=by simpa using h.1
  have q28:(op != 28)=true:=by simpa using h.2
  clear h eK
  have HS:=hid' (set4 HR1.out (.int .i64 op) (.int .i64 n) (.string s) (.slice (some ⟨bl,off,none⟩) ln c))
  obtain⟨r0,r1,r2,r3⟩:=zab HR1.out
  have f0:∀ o,w2.frozen? ⟨w.heap.size+1,o,none⟩=false:=fun o=>Rw.frozen_of HR1.out
  go_wp2_with fail
  obtain⟨hbx,hbl⟩:=HS.out
  generalize World.setCell _ _ _=w9 at *
  obtain⟨y0,y1,y2,y3⟩:=zab hbx
  refine bodyPost_ret (v:=.tuple #[.agg #[.int .i64 op,.int .i64 n,.string s,.slice (some ⟨bl,off,none⟩) ln c],.bool false]) (by simp[results,Tryz.results94,go_sem,y0,y1,y2,y3]) rfl ?_
  have hbb:=HB1.out.trans (hbl w.heap.size (by omega))
  exact⟨hbb,t,_,by rw[HF.out]; rfl,(HV.out.under hbb).old,fun x h=>by rw[HF.out] at h; cases h⟩
end
end Go.Proofs.YtanlmbbalamgkaaGreatDoor
