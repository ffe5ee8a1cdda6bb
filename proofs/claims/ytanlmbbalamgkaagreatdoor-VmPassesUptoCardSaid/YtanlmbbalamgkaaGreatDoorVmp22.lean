/- Proved: lemmas and contracts of the functions that the law reaches, part 22 of 35: OptPlain, OptStep, GfPlain, GfLens, GfTree, OptNorm, GfMany, OptWalk1, OptFold, OptTwice, OptSettled, OptLater, OptChosen, GfMem, GfKeep. Conditions: as each states. -/
import Derived.WideKeyEntry
import Derived.Test.YtanlmbbalamgkaaGreatDoorVmp6
import Derived.Test.YtanlmbbalamgkaaGreatDoorVmp12
import Derived.Test.YtanlmbbalamgkaaGreatDoorVmp19
import Derived.Test.YtanlmbbalamgkaaGreatDoorVmp21
namespace Go.Proofs.YtanlmbbalamgkaaGreatDoor
set_option linter.unusedVariables false
set_option linter.unusedSimpArgs false
section
open Go.RowKit
namespace Co
def leaf (op n:Int):T:=.mk op n ⟨#[]⟩ []
def isC (t:T):Bool:=t.op == 1 || t.op == 2 || t.op == 3
def isNum (t:T)(n:Int):Bool:=t.op == 1 && t.n == n
def isBool (t:T)(n:Int):Bool:=t.op == 2 && t.n == n
def T.kid (t:T)(i:Nat):T:=(t.ks[i]?).getD default
def kidN (t:T)(i:Nat):Int:=((t.ks[i]?).map T.n).getD 0
def tr (b:Bool):Int:=if b then 1 else 0
def foldOp (op a b:Int):Option T:=
 if op=6 then some (leaf 1 (Num.neg a))
 else if op=7 then some (leaf 1 (Num.add a b))
 else if op=8 then some (leaf 1 (Num.sub a b))
 else if op=9 then some (leaf 1 (Num.mul a b))
 else if op=10 then some (leaf 1 (Num.div a b))
 else if op=20 then some (leaf 1 (Dt.years a b))
 else if op=21 then some (leaf 1 (Dt.years30 a b))
 else if op=14 then some (leaf 2 (tr (decide (a=0))))
 else if op=11∨op=17 then some (leaf 2 (tr (decide (a<b))))
 else if op=12 then some (leaf 2 (tr (decide (a≤b))))
 else if op=13 then some (leaf 2 (tr (decide (a=b))))
 else if op=18 then some (leaf 3 (Dt.plus a (Num.whole b)))
 else if op=19 then some (leaf 3 (Dt.months a (Num.whole b)))
 else none
def fold (t:T):Option T:=if t.ks.length≤2∧t.ks.all isC=true then foldOp t.op (kidN t 0) (kidN t 1) else none
def twice (t:T):Option T:=if(t.op=6∨t.op=14∨t.op=25)∧(t.kid 0).op=t.op then some ((t.kid 0).kid 0) else none
def idleL (op:Int)(a b:T):Bool:=
 if op=7 then isNum a 0 else if op=9 then isNum a 1000000 else if op=15 then isBool a 1 else if op=16 then isBool a 0 else if op=27 then a.op == 23
 else if op=26 then isNum a 1000000 || (a.op == 1 && b.op == 23) else false
def idleR (op:Int)(a b:T):Bool:=
 if op=7 then isNum b 0 else if op=8 then isNum b 0 else if op=9 then isNum b 1000000 else if op=10 then isNum b 1000000 else if op=15 then isBool b 1 else if op=16 then isBool b 0 else if op=27 then b.op == 23
 else false
def idle (t:T):Option T:=if t.ks.length=2 then(if idleL t.op (t.kid 0) (t.kid 1)=true then some (t.kid 1) else if idleR t.op (t.kid 0) (t.kid 1)=true then some (t.kid 0) else none) else none
def settled (t:T):Option T:=if(t.op=15∧isBool (t.kid 0) 0=true)∨(t.op=16∧isBool (t.kid 0) 1=true)∨(t.op=25∧(t.kid 0).op=23) then some (t.kid 0) else none
def later (t:T):Option T:=if t.op=29∧(t.kid 0).op=29 then some (.mk 29 (max t.n (t.kid 0).n) ⟨#[]⟩ (t.kid 0).ks) else none
def chosen (t:T):Option T:=if(t.op=22∨t.op=28)∧(t.kid 0).op=2 then some (t.kid (2 - (t.kid 0).n).toNat) else none
def never (t:T):Option T:=if t.op=30∧isBool (t.kid 0) 0=true∧(t.kid 1).op≠23 then some (.mk 30 t.n ⟨#[]⟩ [t.kid 0,leaf 23 0]) else none
def rule (i:Nat)(t:T):Option T:=
 match i with
 |0=>fold t
 |1=>twice t
 |2=>idle t
 |3=>settled t
 |4=>later t
 |5=>chosen t
 |6=>never t
 |_=>none
def meas (t:T):Nat:=2 * t.size - (if t.op=30∧(t.kid 1).op=23 then 1 else 0)
structure Step (t u:T):Prop where
 letter:u.letter=t.letter
 meas:meas u<meas t
 size:u.size≤t.size
 depth:u.depth≤t.depth
 nodes:∀ x∈u.nodes,x∈t.nodes∨x.1=1∨x.1=2∨x.1=3∨x.1=23
 kids:∀ P:T→Prop,(∀ k∈t.ks,P k)→(∀ k:T,P k→∀ j∈k.ks,P j)→P (leaf 23 0)→∀ k∈u.ks,P k
structure Sub (t u:T):Prop where
 size:u.size<t.size
 depth:u.depth≤t.depth
 nodes:∀ x∈u.nodes,x∈t.nodes
 kids:∀ P:T→Prop,(∀ k∈t.ks,P k)→(∀ k:T,P k→∀ j∈k.ks,P j)→P u
theorem ny {t k:T}(h:k∈t.ks):Sub t k:=by
 obtain⟨o,n,s,ks⟩:=t;have h':k∈ks:=h;refine⟨?_,?_,fun x hx=>?_,fun P h1 h2=>h1 k h⟩
 ·have:=sizes_mem h'; rw[T.size]; omega
 ·have:=em h'; rw[T.depth]; omega
 ·rw[T.nodes]; exact List.mem_cons_of_mem _ (mem_nodess.2 ⟨k,h',hx⟩)
theorem Sub.trans {t u v:T}(h:Sub t u)(k:Sub u v):Sub t v:=
 ⟨Nat.lt_trans k.size h.size,Nat.le_trans k.depth h.depth,fun x hx=>h.nodes x (k.nodes x hx),fun P h1 h2=>k.kids P (h2 u (h.kids P h1 h2)) h2⟩
theorem zfu (t:T):meas t≤2 * t.size:=Nat.sub_le _ _
theorem zcm (t:T):2 * t.size - 1≤meas t:=by unfold meas; split<;>omega
theorem Sub.step {t u:T}(h:Sub t u)(hl:u.letter=t.letter):Step t u:=by
 refine⟨hl,?_,Nat.le_of_lt h.size,h.depth,fun x hx=>.inl (h.nodes x hx),fun P h1 h2 h3=>h2 u (h.kids P h1 h2)⟩
 have:=zfu u
 have:=zcm t
 have:=h.size;omega
theorem zqj {t:T}{op n:Int}(hs:2≤t.size)(ho:op=1∨op=2∨op=3)(hl:(leaf op n).letter=t.letter):Step t (leaf op n):=by
 have e:(leaf op n).size=1:=rfl;have hd:(leaf op n).depth=1:=rfl;refine⟨hl,?_,by omega,by rw[hd]; exact je t,fun x hx=>?_,fun P h1 h2 h3 k hk=>by cases hk⟩
 ·have:=zfu (leaf op n)
  have:=zcm t;omega
 ·have A0:x∈[(op,n)]:=hx;rw[List.mem_singleton] at A0;subst A0;right;rcases ho with h|h|h
  ·exact .inl h
  ·exact .inr (.inl h)
  ·exact .inr (.inr (.inl h))
theorem neg_in (a:Int) : -1000000000000000≤Num.neg a∧Num.neg a≤1000000000000000:=by
 have h1:=Num.clamp_le a;have h2:=Num.clamp_ge a;unfold Num.neg; omega
theorem zpc (b:Bool)(n:Nat)(h:n≤1000000000000000) : -1000000000000000≤Num.sgn b n∧Num.sgn b n≤1000000000000000:=by
 cases b<;>simp[Num.sgn]<;>omega
theorem zma (x y d:Nat):Num.scl x y d≤1000000000000000:=by
 unfold Num.scl; split<;>omega
theorem mul_in (a b:Int) : -1000000000000000≤Num.mul a b∧Num.mul a b≤1000000000000000:=zpc _ _ (zma _ _ _)
theorem div_in (a b:Int) : -1000000000000000≤Num.div a b∧Num.div a b≤1000000000000000:=by
 unfold Num.div;split
 ·omega
 ·exact zpc _ _ (zma _ _ _)
theorem add_in (a b:Int) : -1000000000000000≤Num.add a b∧Num.add a b≤1000000000000000:=⟨Num.clamp_ge _,Num.clamp_le _⟩
theorem sub_in (a b:Int) : -1000000000000000≤Num.sub a b∧Num.sub a b≤1000000000000000:=⟨Num.clamp_ge _,Num.clamp_le _⟩
theorem years_in (a b:Int) : -1000000000000000≤Dt.years a b∧Dt.years a b≤1000000000000000:=by
 unfold Dt.years Dt.ratio;exact div_in _ _
theorem years30_in (a b:Int) : -1000000000000000≤Dt.years30 a b∧Dt.years30 a b≤1000000000000000:=by
 unfold Dt.years30 Dt.ratio;exact div_in _ _
theorem tr_in (b:Bool):0≤tr b∧tr b≤1:=by cases b<;>simp[tr]
theorem plus_in (a b:Int):0≤Dt.plus a b∧Dt.plus a b≤73048:=⟨Dt.clamp_ge _,Dt.clamp_le _⟩
theorem ztb (y:Int):Dt.sumTo (Dt.feb y) 12=Dt.days y:=by
 unfold Dt.feb Dt.days;split<;>rfl
theorem zow (y:Int)(i:Nat)(h:i<12):Dt.sumTo (Dt.feb y) i+((Dt.lens (Dt.feb y))[i]?).getD 0≤Dt.days y:=by
 rw[←ztb y]
 have:=Dt.feb_in y;rcases(by omega:i=0∨i=1∨i=2∨i=3∨i=4∨i=5∨i=6∨i=7∨i=8∨i=9∨i=10∨i=11) with rfl|rfl|rfl|rfl|rfl|rfl|rfl|rfl|rfl|rfl|rfl|rfl<;>simp[Dt.sumTo,Dt.lens]<;>omega
theorem zom {y:Int}(h:1900≤y)(h2:y≤2099):Dt.ahead y+Dt.days y≤73049:=by
 by_cases h3:y≤2098
 ·unfold Dt.ahead Dt.days;split<;>omega
 ·obtain rfl:y=2099:=by omega
  decide
theorem zyj {y d:Int}{i:Nat}(h:1900≤y)(h2:y≤2099)(hi:i<12):0≤Dt.ofD y i d∧Dt.ofD y i d≤73048:=by
 unfold Dt.ofD;split
 ·omega
 ·rename_i hn;have h3:=Dt.ahead_in h (by omega);have h4:=zom h h2;have h5:=zow y i hi;have h6:=Dt.sumTo_in y i (by omega);omega
theorem months_in (a b:Int):0≤Dt.months a b∧Dt.months a b≤73048:=by
 unfold Dt.months;split
 ·omega
 ·split
  ·omega
  ·exact zyj (by omega) (by omega) (by omega)
theorem pg {n:Int}(h : -1000000000000000≤n∧n≤1000000000000000):(leaf 1 n).letter=110:=pz (by decide) want_1 (znx h)
theorem zrx {n:Int}(h:0≤n∧n≤1):(leaf 2 n).letter=98:=pz (by decide) want_2 (zlg h)
theorem zjz {n:Int}(h:0≤n∧n≤73048):(leaf 3 n).letter=100:=pz (by decide) want_3 (zai (.inl rfl) h)
theorem zop:(leaf 23 0).letter=99:=pz (by decide) want_23 zlf
theorem zau {op a b:Int}{u:T}(h:foldOp op a b=some u){l:List UInt8}{x:UInt8}(hw:de op=some (l,x)):∃ o n,u=leaf o n∧(o=1∨o=2∨o=3)∧u.letter=x:=by
 rcases op_cases (want_in hw) with rfl|rfl|rfl|rfl|rfl|rfl|rfl|rfl|rfl|rfl|rfl|rfl|rfl|rfl|rfl|rfl|rfl|rfl|rfl|rfl|rfl|rfl|rfl|rfl|rfl|rfl|rfl|rfl|rfl|rfl|rfl;all_goals first|(exfalso; simp[foldOp] at h; done)|skip
 all_goals simp[foldOp] at h
 all_goals subst h
 all_goals simp only[want_6,want_7,want_8,want_9,want_10,want_11,want_12,want_13,want_14,want_17,want_18,want_19,want_20,want_21] at hw
 all_goals cases hw
 all_goals with_reducible first
  |exact⟨_,_,rfl,.inl rfl,pg (neg_in _)⟩
  |exact⟨_,_,rfl,.inl rfl,pg (mul_in _ _)⟩
  |exact⟨_,_,rfl,.inl rfl,pg (div_in _ _)⟩
  |exact⟨_,_,rfl,.inl rfl,pg (add_in _ _)⟩
  |exact⟨_,_,rfl,.inl rfl,pg (sub_in _ _)⟩
  |exact⟨_,_,rfl,.inl rfl,pg (years_in _ _)⟩
  |exact⟨_,_,rfl,.inl rfl,pg (years30_in _ _)⟩
  |exact⟨_,_,rfl,.inr (.inl rfl),zrx (tr_in _)⟩
  |exact⟨_,_,rfl,.inr (.inr rfl),zjz (plus_in _ _)⟩
  |exact⟨_,_,rfl,.inr (.inr rfl),zjz (months_in _ _)⟩
end Co
end
section
open Go.RowKit
namespace Co
theorem open_kids {t:T}{l:List UInt8}{r:UInt8}(ho:t.op≠22)(hw:de t.op=some (l,r))(hx:t.letter≠0):t.ks.map T.letter=l∧t.letter=r∧fields t.op t.n t.s=true:=by
 obtain⟨op,n,s,ks⟩:=t;obtain⟨h1,h2⟩:=letter_inv rfl hx ho;have A0:de op=some (l,r):=hw;rw[A0] at h1;simp only[Option.some.injEq,Prod.mk.injEq] at h1;exact⟨h1.1.symm,h1.2.symm,h2⟩
theorem one_kid {t:T}{a:UInt8}(h:t.ks.map T.letter=[a]):∃ k,t.ks=[k]∧k.letter=a∧t.kid 0=k:=by
 match hk:t.ks with
 | [k]=>rw[hk] at h; exact⟨k,rfl,by simpa using h,by simp[T.kid,hk]⟩
 | []=>rw[hk] at h; cases h
 |_::_::_=>rw[hk] at h; simp at h
theorem two_kids {t:T}{a b:UInt8}(h:t.ks.map T.letter=[a,b]):∃ k j,t.ks=[k,j]∧(k.letter=a∧j.letter=b)∧t.kid 0=k∧t.kid 1=j:=by
 match hk:t.ks with
 | [k,j]=>rw[hk] at h; exact⟨k,j,rfl,by simpa using h,by simp[T.kid,hk],by simp[T.kid,hk]⟩
 | []=>rw[hk] at h; cases h
 | [_]=>rw[hk] at h; simp at h
 |_::_::_::_=>rw[hk] at h; simp at h
theorem three_kids {t:T}{a b c:UInt8}(h:t.ks.map T.letter=[a,b,c]):∃ k j i,t.ks=[k,j,i]∧(k.letter=a∧j.letter=b∧i.letter=c)∧t.kid 0=k∧t.kid 1=j∧t.kid 2=i:=by
 match hk:t.ks with
 | [k,j,i]=>rw[hk] at h; exact⟨k,j,i,rfl,by simpa using h,by simp[T.kid,hk],by simp[T.kid,hk],by simp[T.kid,hk]⟩
 | []=>rw[hk] at h; cases h
 | [_]=>rw[hk] at h; simp at h
 | [_,_]=>rw[hk] at h; simp at h
 |_::_::_::_::_=>rw[hk] at h; simp at h
theorem ztj {t:T}(h:t.ks≠[]):2≤t.size:=by
 obtain⟨o,n,s,ks⟩:=t;match ks,h with
 |k::r,_=>
  have:=size_pos k;rw[T.size,sizes];omega
theorem zmz {t u:T}(h:twice t=some u)(hx:t.letter≠0):Step t u:=by
 unfold twice at h;split at h
 ·rename_i hc;obtain⟨ho,hk⟩:=hc;cases h;have go:∀(op:Int) (a:UInt8),op≠22→de op=some ([a],a)→a≠0→t.op=op→Step t ((t.kid 0).kid 0):=by
   intro op a A0 hw ha e;obtain⟨h1,h2, -⟩:=open_kids (t:=t) (by rw[e]; exact A0) (by rw[e]; exact hw) hx;obtain⟨k,A3,A2,A1⟩:=one_kid h1;rw[A1] at hk ⊢;obtain⟨h3,h4, -⟩:=open_kids (t:=k) (by rw[hk,e]; exact A0) (by rw[hk,e]; exact hw) (by rw[A2]; exact ha);obtain⟨j,A6,A5,A4⟩:=one_kid h3;rw[A4];refine((ny (t:=t) (k:=k) (by rw[A3]; simp)).trans (ny (t:=k) (k:=j) (by rw[A6]; simp))).step ?_;rw[h2,A5]
  rcases ho with e|e|e
  ·exact go 6 110 (by decide) want_6 (by decide) e
  ·exact go 14 98 (by decide) want_14 (by decide) e
  ·exact go 25 99 (by decide) want_25 (by decide) e
 ·cases h
theorem zqy {t u:T}(h:fold t=some u)(hx:t.letter≠0):Step t u:=by
 unfold fold at h;split at h
 ·by_cases A0:t.op=22
  ·rw[A0] at h;simp[foldOp] at h
  ·obtain⟨op,n,s,ks⟩:=t;obtain⟨h1,h2⟩:=letter_inv rfl hx A0;obtain⟨o,m,rfl,ho,hl⟩:=zau h h1;refine zqj (ztj ?_) ho hl;intro e;have e':ks=[]:=e;subst e';rcases op_cases (want_in h1) with rfl|rfl|rfl|rfl|rfl|rfl|rfl|rfl|rfl|rfl|rfl|rfl|rfl|rfl|rfl|rfl|rfl|rfl|rfl|rfl|rfl|rfl|rfl|rfl|rfl|rfl|rfl|rfl|rfl|rfl|rfl;all_goals first
    |(simp[foldOp,T.op] at h; done)
    |(simp[want_6,want_7,want_8,want_9,want_10,want_11,want_12,want_13,want_14,want_17,want_18,want_19,want_20,want_21] at h1; done)
 ·cases h
theorem zqw {t u:T}(h:idle t=some u)(hx:t.letter≠0):Step t u:=by
 unfold idle at h;split at h
 ·rename_i A0;obtain⟨a,b,hk⟩:∃ a b,t.ks=[a,b]:=by
   match hk:t.ks with
   | [a,b]=>exact⟨a,b,rfl⟩
   | []=>rw[hk] at A0; cases A0
   | [_]=>rw[hk] at A0; simp at A0
   |_::_::_::_=>rw[hk] at A0; simp at A0
  have ka:t.kid 0=a:=by simp[T.kid,hk]
  have kb:t.kid 1=b:=by simp[T.kid,hk]
  rw[ka,kb] at h;have A2:Sub t a:=ny (by rw[hk]; simp);have A1:Sub t b:=ny (by rw[hk]; simp);have same:∀(op:Int) (x:UInt8),op≠22→de op=some ([x,x],x)→t.op=op→a.letter=t.letter∧b.letter=t.letter:=by
   intro op x A3 hw e;obtain⟨h1,h2, -⟩:=open_kids (t:=t) (by rw[e]; exact A3) (by rw[e]; exact hw) hx;rw[hk] at h1;simp at h1;rw[h2];exact h1
  have scale:t.op=26→b.letter=t.letter:=by
   intro e;obtain⟨h1,h2, -⟩:=open_kids (t:=t) (by rw[e]; decide) (by rw[e]; exact want_26) hx;rw[hk] at h1;simp at h1;rw[h2];exact h1.2
  split at h
  ·rename_i hl;cases h;refine A1.step ?_;unfold idleL at hl;split at hl
   ·rename_i e; exact(same 7 110 (by decide) want_7 e).2
   split at hl
   ·rename_i e; exact(same 9 110 (by decide) want_9 e).2
   split at hl
   ·rename_i e; exact(same 15 98 (by decide) want_15 e).2
   split at hl
   ·rename_i e; exact(same 16 98 (by decide) want_16 e).2
   split at hl
   ·rename_i e; exact(same 27 99 (by decide) want_27 e).2
   split at hl
   ·rename_i e; exact scale e
   ·cases hl
  ·split at h
   ·rename_i hr;cases h;refine A2.step ?_;unfold idleR at hr;split at hr
    ·rename_i e; exact(same 7 110 (by decide) want_7 e).1
    split at hr
    ·rename_i e; exact(same 8 110 (by decide) want_8 e).1
    split at hr
    ·rename_i e; exact(same 9 110 (by decide) want_9 e).1
    split at hr
    ·rename_i e; exact(same 10 110 (by decide) want_10 e).1
    split at hr
    ·rename_i e; exact(same 15 98 (by decide) want_15 e).1
    split at hr
    ·rename_i e; exact(same 16 98 (by decide) want_16 e).1
    split at hr
    ·rename_i e; exact(same 27 99 (by decide) want_27 e).1
    ·cases hr
   ·cases h
 ·cases h
theorem ziq {t u:T}(h:settled t=some u)(hx:t.letter≠0):Step t u:=by
 unfold settled at h;split at h
 ·rename_i hc;cases h;rcases hc with⟨e, -⟩|⟨e, -⟩|⟨e, -⟩
  ·obtain⟨h1,h2, -⟩:=open_kids (t:=t) (by rw[e]; decide) (by rw[e]; exact want_15) hx;obtain⟨k,j,A2,A1,A0, -⟩:=two_kids h1;rw[A0];exact(ny (t:=t) (k:=k) (by rw[A2]; simp)).step (by rw[h2,A1.1])
  ·obtain⟨h1,h2, -⟩:=open_kids (t:=t) (by rw[e]; decide) (by rw[e]; exact want_16) hx;obtain⟨k,j,A2,A1,A0, -⟩:=two_kids h1;rw[A0];exact(ny (t:=t) (k:=k) (by rw[A2]; simp)).step (by rw[h2,A1.1])
  ·obtain⟨h1,h2, -⟩:=open_kids (t:=t) (by rw[e]; decide) (by rw[e]; exact want_25) hx;obtain⟨k,A2,A1,A0⟩:=one_kid h1;rw[A0];exact(ny (t:=t) (k:=k) (by rw[A2]; simp)).step (by rw[h2,A1])
 ·cases h
theorem znp {t u:T}(h:later t=some u)(hx:t.letter≠0):Step t u:=by
 unfold later at h;split at h
 ·rename_i hc;obtain⟨e,e2⟩:=hc;cases h;obtain⟨h1,h2,h3⟩:=open_kids (t:=t) (by rw[e]; decide) (by rw[e]; exact want_29) hx;obtain⟨k,A4,A3,A2⟩:=one_kid h1;rw[A2] at e2 ⊢;obtain⟨h4,h5,h6⟩:=open_kids (t:=k) (by rw[e2]; decide) (by rw[e2]; exact want_29) (by rw[A3]; decide);obtain⟨j,A6,A5,A8⟩:=one_kid h4;rw[e] at h3;rw[e2] at h6;have d1:=sq (.inr (.inl rfl)) h3;have d2:=sq (.inr (.inl rfl)) h6;have hl:(T.mk 29 (max t.n k.n) ⟨#[]⟩ k.ks).letter=t.letter:=by
   rw[h2];refine pz (by decide) ?_ (zai (.inr (.inl rfl)) (by omega));rw[A6,want_29];simp[A5]
  obtain⟨o,n,s,ks⟩:=t;obtain⟨o2,n2,s2,A0⟩:=k;have ek:ks=[T.mk o2 n2 s2 A0]:=A4;subst ek;have ee:o=29:=e;have A7:o2=29:=e2;subst ee A7;refine⟨hl,?_,?_,?_,fun x hx=>?_,fun P h1 h2 h3 k hk=>?_⟩
  ·have a1:=zfu (T.mk 29 (max n n2) ⟨#[]⟩ A0);have a2:=zcm (T.mk 29 n s [T.mk 29 n2 s2 A0]);have a3:(T.mk 29 (max n n2) ⟨#[]⟩ A0).size=1+sizes A0:=by rw[T.size]
   have a4:(T.mk 29 n s [T.mk 29 n2 s2 A0]).size=1+(1+sizes A0+0):=by rw[T.size,sizes,sizes,T.size]
   show meas (T.mk 29 (max n n2) ⟨#[]⟩ A0)<_
   omega
  ·show(T.mk 29 (max n n2) ⟨#[]⟩ A0).size≤_
   rw[T.size,T.size,sizes,T.size];omega
  ·show(T.mk 29 (max n n2) ⟨#[]⟩ A0).depth≤_
   rw[T.depth,T.depth,gv,T.depth];omega
  ·have A1:x∈(29,max n n2)::gz A0:=hx;have e:(T.mk 29 n s [T.mk 29 n2 s2 A0]).nodes=(29,n)::(((29,n2)::gz A0)++[]):=by rw[T.nodes,gz,T.nodes,gz]
   rw[e];left;rcases List.mem_cons.1 A1 with rfl|A1
   ·rcases(by omega:max n n2=n∨max n n2=n2) with h|h<;>rw[h]<;>simp
   ·simp[A1]
  ·exact h2 (T.mk 29 n2 s2 A0) (h1 _ (by show _∈[_]; simp)) k hk
 ·cases h
theorem zln {t u:T}(h:chosen t=some u)(hx:t.letter≠0):Step t u:=by
 unfold chosen at h;split at h
 ·rename_i hc;obtain⟨ho,e2⟩:=hc;cases h;have h3:∃ k j i,t.ks=[k,j,i]∧(k.letter=98∧j.letter=t.letter∧i.letter=t.letter)∧t.kid 0=k∧t.kid 1=j∧t.kid 2=i:=by
   rcases ho with e|e
   ·obtain⟨o,n,s,ks⟩:=t;have ee:o=22:=e;subst ee;obtain⟨a,b,c,rfl,l1,l2,l3, -, -⟩:=(letter_22 hx).1 rfl;exact⟨a,b,c,rfl,⟨l1,l2,l3⟩,rfl,rfl,rfl⟩
   ·obtain⟨h1,h2, -⟩:=open_kids (t:=t) (by rw[e]; decide) (by rw[e]; exact want_28) hx;obtain⟨k,j,i,a1,a2,a3,a4,a5⟩:=three_kids h1;exact⟨k,j,i,a1,by rw[h2]; exact a2,a3,a4,a5⟩
  obtain⟨k,j,i,a1,⟨l1,l2,l3⟩,a3,a4,a5⟩:=h3;rw[a3] at e2 ⊢;obtain⟨-, -,hf⟩:=open_kids (t:=k) (by rw[e2]; decide) (by rw[e2]; exact want_2) (by rw[l1]; decide);rw[e2] at hf;rcases bool_of hf with e|e
  ·rw[e];show Step t (t.kid 2)
   rw[a5];exact(ny (t:=t) (k:=i) (by rw[a1]; simp)).step l3
  ·rw[e];show Step t (t.kid 1)
   rw[a4];exact(ny (t:=t) (k:=j) (by rw[a1]; simp)).step l2
 ·cases h
theorem znj {t u:T}(h:never t=some u)(hx:t.letter≠0):Step t u:=by
 unfold never at h;split at h
 ·rename_i hc;obtain⟨e,hb,hz⟩:=hc;cases h;obtain⟨h1,h2,h3⟩:=open_kids (t:=t) (by rw[e]; decide) (by rw[e]; exact want_30) hx;obtain⟨k,j,A5,A4,A3,A2⟩:=two_kids h1;rw[A2] at hz;rw[A3] at hb ⊢;rw[e] at h3;have hl:(T.mk 30 t.n ⟨#[]⟩ [k,leaf 23 0]).letter=t.letter:=by
   rw[h2];refine pz (by decide) ?_ (zai (.inr (.inr rfl)) (sq (.inr (.inr rfl)) h3));rw[want_30];simp[A4.1,zop]
  obtain⟨o,n,s,ks⟩:=t;have ek:ks=[k,j]:=A5;subst ek;have ee:o=30:=e;subst ee;have p1:=size_pos j;have z1:(leaf 23 0).size=1:=rfl;have z2:(leaf 23 0).depth=1:=rfl;have p2:=je j;have s1:(T.mk 30 n ⟨#[]⟩ [k,leaf 23 0]).size=1+(k.size+(1+0)):=by rw[T.size,sizes,sizes,sizes,z1]
  have s2:(T.mk 30 n s [k,j]).size=1+(k.size+(j.size+0)):=by rw[T.size,sizes,sizes,sizes]
  refine⟨hl,?_,?_,?_,fun x hx=>?_,fun P h1 h2 h3 q hq=>?_⟩
  ·have m1:meas (T.mk 30 n ⟨#[]⟩ [k,leaf 23 0])=2 * (T.mk 30 n ⟨#[]⟩ [k,leaf 23 0]).size - 1:=by
    unfold meas;rw[if_pos ⟨rfl,rfl⟩]
   have m2:meas (T.mk 30 n s [k,j])=2 * (T.mk 30 n s [k,j]).size:=by
    unfold meas;rw[if_neg (fun h=>hz h.2)];rfl
   show meas (T.mk 30 n ⟨#[]⟩ [k,leaf 23 0])<_
   rw[m1,m2];omega
  ·show(T.mk 30 n ⟨#[]⟩ [k,leaf 23 0]).size≤_
   omega
  ·show(T.mk 30 n ⟨#[]⟩ [k,leaf 23 0]).depth≤_
   rw[T.depth,T.depth,gv,gv,gv,gv,gv,z2];omega
  ·have A0:x∈(T.mk 30 n ⟨#[]⟩ [k,leaf 23 0]).nodes:=hx;have e1:(T.mk 30 n ⟨#[]⟩ [k,leaf 23 0]).nodes=(30,n)::(k.nodes++[(23,0)]):=by rw[T.nodes,gz,gz,gz]; rfl
   have e2:(T.mk 30 n s [k,j]).nodes=(30,n)::(k.nodes++(j.nodes++[])):=by rw[T.nodes,gz,gz,gz]
   rw[e1] at A0;rw[e2];rcases List.mem_cons.1 A0 with rfl|A0
   ·left; simp
   ·rcases List.mem_append.1 A0 with A0|A0
    ·left; simp[A0]
    ·rw[List.mem_singleton] at A0;subst A0;exact .inr (.inr (.inr (.inr rfl)))
  ·have A1:q∈[k,leaf 23 0]:=hq;simp only[List.mem_cons,List.not_mem_nil,or_false] at A1;rcases A1 with rfl|rfl
   ·exact h1 _ (by show _∈[_,_]; simp)
   ·exact h3
 ·cases h
theorem zpg {i:Nat}{t u:T}(h:rule i t=some u)(hx:t.letter≠0):Step t u:=by
 unfold rule at h;split at h
 ·exact zqy h hx
 ·exact zmz h hx
 ·exact zqw h hx
 ·exact ziq h hx
 ·exact znp h hx
 ·exact zln h hx
 ·exact znj h hx
 ·cases h
end Co
end
section
open Go.RowKit
namespace Gf
open Co Gen
structure Val where
 op:Int
 n:Int
 s:ByteArray
 b:Int
 c:Int
structure Mk where
 regs:Int
 ws:List Wt
 ins:List Ix
 jobs:List (Nat × T)
 next:Int
 known:Val→Option Int
 over:Bool
 puts:Nat
def rx:Val→Option Int:=fun _=>none
def txt0:ByteArray:=⟨#[]⟩
def mk0:Mk:=⟨0,[],[],[],0,rx,false,0⟩
def ix (op a b n:Int):Ix:=⟨op,a,b,0,n,txt0,0⟩
def Mk.lay (m:Mk)(x:Ix):Mk:={ m with ins:=m.ins++[x] }
def toHere (p:Nat)(l:List Ix):List Ix:=l.modify p fun x=>⟨x.op,x.a,x.b,x.c,x.n,x.s,(l.length:Int)⟩
def Mk.here (m:Mk)(p:Nat):Mk:={ m with ins:=toHere p m.ins }
def Mk.reg (m:Mk):Mk:={ m with next:=m.next+1,regs:=max m.regs (m.next+1),over:=m.over || decide (256<m.next+1) }
open Classical in
noncomputable def Mk.put (m:Mk)(v:Val)(r:Int):Mk:={ m with known:=fun x=>if x=v then some r else m.known x,puts:=m.puts+1 }
def Mk.back (m:Mk)(k:Val→Option Int):Mk:={ m with known:=k }
def Mk.free (m:Mk)(sh:Bool)(r:Int):Mk:=if sh then m else { m with next:=r }
def Val.ix (v:Val)(r:Int):Ix:=⟨v.op,r,v.b,v.c,v.n,v.s,0⟩
abbrev Ob:=Int × Mk × List Nat
noncomputable def au (sh:Bool)(v:Val)(m:Mk)(u:List Nat):Ob:=
 match (if sh then m.known v else none) with
 |some r=>(r,m,u)
 |none=>(m.next,(m.reg.lay (v.ix m.next)).put v m.next,if v.op=2 then u++[m.ins.length] else u)
def ai (op:Int):Int:=if op≤14 then op - 2 else op - 4
def aj (sh:Bool)(out:Int)(o:Ob):Mk × List Nat:=((o.2.1.lay (ix 18 out o.1 0)).free sh (out+1),o.2.2)
def iq (ob:T→Mk→List Nat→Ob)(sh:Bool)(t:T)(m:Mk)(u:List Nat):Mk × List Nat:=
 let a:=aj sh m.next (ob (t.kid 0) m.reg u)
 let b:=a.1.lay (ix 19 0 m.next 0)
 let c:=aj sh m.next (ob (t.kid 1) b a.2)
 ((c.1.back b.known).here a.1.ins.length,c.2)
def jy (ob:T→Mk→List Nat→Ob)(sh:Bool)(t:T)(m:Mk)(u:List Nat):Mk × List Nat:=
 let a:=aj sh m.next (ob (t.kid 0) m.reg u)
 let b:=((a.1.lay (ix 19 0 m.next 0)).lay (ix 20 0 0 0)).here a.1.ins.length
 let c:=aj sh m.next (ob (t.kid 1) b a.2)
 ((c.1.back b.known).here (a.1.ins.length+1),c.2)
def jz (ob:T→Mk→List Nat→Ob)(sh:Bool)(t:T)(m:Mk)(u:List Nat):Mk × List Nat:=
 let a:=aj sh m.next (ob (t.kid 0) m.reg u)
 let b:=a.1.lay (ix 19 0 m.next 0)
 let c:=aj sh m.next (ob (t.kid 1) b a.2)
 let e:=((c.1.back b.known).lay (ix 20 0 0 0)).here a.1.ins.length
 let f:=aj sh m.next (ob (t.kid 2) e c.2)
 ((f.1.back e.known).here c.1.ins.length,f.2)
def chosen (m:Mk)(sh:Bool)(r:Mk × List Nat):Ob:=(m.next,r.1.free sh (m.next+1),r.2)
noncomputable def me (ob:T→Mk→List Nat→Ob)(sh:Bool)(t:T)(m:Mk)(u:List Nat):Ob:=
 let a:=ob (t.kid 0) m u
 let b:Ob:=if 1<t.ks.length then ob (t.kid 1) a.2.1 a.2.2 else(0,a.2.1,a.2.2)
 if sh=true then au sh ⟨ai t.op,0,txt0,a.1,b.1⟩ b.2.1 b.2.2
 else(a.1,(b.2.1.lay ⟨ai t.op,a.1,a.1,b.1,0,txt0,0⟩).free sh (m.next+1),b.2.2)
noncomputable def obs (sh:Bool):Nat→T→Mk→List Nat→Ob
 |0,_,m,u=>(0,m,u)
 |d+1,t,m,u=>
  if t.op=1∨t.op=2∨t.op=3 then au sh ⟨1,t.n,txt0,0,0⟩ m u
  else if t.op=4 then au sh ⟨2,t.n,t.s,0,0⟩ m u
  else if t.op=5 then au sh ⟨3,t.n,txt0,0,0⟩ m u
  else if t.op=15 then chosen m sh (iq (obs sh d) sh t m u)
  else if t.op=16 then chosen m sh (jy (obs sh d) sh t m u)
  else if t.op=22 then chosen m sh (jz (obs sh d) sh t m u)
  else me (obs sh d) sh t m u
section
variable {sh:Bool}{d:Nat}{t:T}{m:Mk}{u:List Nat}
theorem px (h:t.op=1∨t.op=2∨t.op=3):obs sh (d+1) t m u=au sh ⟨1,t.n,txt0,0,0⟩ m u:=by rw[obs]; exact if_pos h
theorem qx (h:t.op=4):obs sh (d+1) t m u=au sh ⟨2,t.n,t.s,0,0⟩ m u:=by rw[obs]; exact(if_neg (by omega)).trans (if_pos h)
theorem tu (h:t.op=5):obs sh (d+1) t m u=au sh ⟨3,t.n,txt0,0,0⟩ m u:=by rw[obs]; exact(if_neg (by omega)).trans ((if_neg (by omega)).trans (if_pos h))
theorem tv (h:t.op=15):obs sh (d+1) t m u=chosen m sh (iq (obs sh d) sh t m u):=by rw[obs]; exact(if_neg (by omega)).trans ((if_neg (by omega)).trans ((if_neg (by omega)).trans (if_pos h)))
theorem yd (h:t.op=16):obs sh (d+1) t m u=chosen m sh (jy (obs sh d) sh t m u):=by rw[obs]; exact(if_neg (by omega)).trans ((if_neg (by omega)).trans ((if_neg (by omega)).trans ((if_neg (by omega)).trans (if_pos h))))
theorem yf (h:t.op=22):obs sh (d+1) t m u=chosen m sh (jz (obs sh d) sh t m u):=by rw[obs]; exact(if_neg (by omega)).trans ((if_neg (by omega)).trans ((if_neg (by omega)).trans ((if_neg (by omega)).trans ((if_neg (by omega)).trans (if_pos h)))))
theorem mj (h:6≤t.op∧t.op≤21∧t.op≠15∧t.op≠16):obs sh (d+1) t m u=me (obs sh d) sh t m u:=by rw[obs]; exact(if_neg (by omega)).trans ((if_neg (by omega)).trans ((if_neg (by omega)).trans ((if_neg (by omega)).trans ((if_neg (by omega)).trans (if_neg (by omega))))))
end
def cr (t:T):Bool:=t.nodes.any fun x=>x.1 == 4
def bp (t:T):Bool:=if t.op=29∨t.op=30∨t.op=31 then true else if t.op=26∨t.op=28 then cr (t.kid 0) else false
mutual
def dd:T→Nat
 | .mk o n s ks=>(if bp (.mk o n s ks) then 1 else 0)+bi ks
def bi:List T→Nat
 | []=>0
 |k::r=>dd k+bi r
end
def either (con:T→Mk→Mk)(r:Int)(t:T)(m:Mk):Mk:=
 let a:=m.lay (ix 19 0 r 0)
 let b:=(con (t.kid 1) a).back a.known
 let c:=(b.lay (ix 20 0 0 0)).here m.ins.length
 ((con (t.kid 2) c).back c.known).here b.ins.length
def Mk.call (m:Mk)(t:T):Mk:=
 { m with ins:=m.ins++[ix 29 0 0 m.ws.length],jobs:=m.jobs++[(m.ws.length,t)],ws:=m.ws++[⟨0,0,txt0,0,0⟩] }
noncomputable def con (sh:Bool):Nat→T→Mk→Mk
 |0,_,m=>m
 |d+1,t,m=>
  if bp t=true then m.call t
  else
   (if t.op=24 then m.lay ⟨27,0,0,0,0,t.s,0⟩
    else if t.op=25 then con sh d (t.kid 0) (m.lay (ix 24 0 0 0))
    else if t.op=27 then con sh d (t.kid 1) ((con sh d (t.kid 0) (m.reg.lay (ix 25 m.next 0 0))).lay (ix 26 0 m.next 0))
    else if t.op=26 then
     let o:=obs sh d (t.kid 0) m []
     con sh d (t.kid 1) (o.2.1.lay (ix 23 0 o.1 0))
    else if t.op=28 then
     let o:=obs sh d (t.kid 0) m []
     either (con sh d) o.1 t o.2.1
    else m).free sh m.next
def Mk.fin (m:Mk):Mk:=m.lay (ix 30 0 0 0)
def Mk.setW (m:Mk)(j:Nat)(f:Wt→Wt):Mk:={ m with ws:=m.ws.modify j f }
def Mk.fresh (m:Mk):Mk:={ m with next:=0,known:=rx }
def cv (n:Int):Int:=if 73048<n then 0 else n
noncomputable def wy (sh:Bool)(j:Nat)(t:T)(m:Mk):Mk:=
 let a:=((m.lay (ix 21 0 0 t.n)).lay (ix 28 0 0 j)).fin
 let b:=((con sh 200 (t.kid 0) (a.lay (ix 21 0 0 t.n))).fin.here m.ins.length).here a.ins.length
 let c:=(con sh 200 (t.kid 1) b.fresh).fin
 c.setW j fun _=>⟨m.ins.length,cv (t.n+1),t.s,a.ins.length,b.ins.length⟩
def hereAll (m:Mk)(l:List Nat):Mk:=l.foldl Mk.here m
def again (j:Nat)(m:Mk)(l:List Nat):Mk:=((hereAll (m.setW j fun w=>{ w with day:=cv w.day }).fin l).lay (ix 28 0 0 j)).fin
noncomputable def wait (sh:Bool)(j:Nat)(t:T)(m0:Mk):Mk:=
 let m:=(m0.setW j fun w=>{ w with entry:=m0.ins.length }).fresh
 if t.op=29 then again j (con sh 200 (t.kid 0) ((m.setW j fun w=>{ w with day:=t.n }).lay (ix 22 0 0 t.n))) [m.ins.length]
 else if t.op=30 then
  let o:=obs sh 200 (t.kid 0) ((m.setW j fun w=>{ w with day:=t.n+1 }).lay (ix 21 0 0 t.n)) []
  again j ((con sh 200 (t.kid 1) (o.2.1.lay (ix 19 0 o.1 0))).here m.ins.length) (o.2.2++[o.2.1.ins.length])
 else if t.op=26 then
  let o:=obs sh 200 (t.kid 0) m []
  again j (con sh 200 (t.kid 1) (o.2.1.lay (ix 23 0 o.1 0))) o.2.2
 else if t.op=28 then
  let o:=obs sh 200 (t.kid 0) m []
  again j (either (con sh 200) o.1 t o.2.1) o.2.2
 else if t.op=31 then wy sh j t m
 else again j m []
noncomputable def run (sh:Bool):Nat→Mk→Mk
 |0,m=>m
 |k+1,m=>match m.jobs with
  | []=>m
  |(j,t)::r=>run sh k (wait sh j t { m with jobs:=r })
noncomputable def eu (sh:Bool)(t:T):Mk:=run sh t.size (con sh 200 t mk0).fin
end Gf
end
section
open Go.RowKit
namespace Gf
open Co
theorem qa (sh:Bool)(out:Int)(o:Ob):(aj sh out o).1.puts=o.2.1.puts:=by
 unfold aj Mk.free;cases sh<;>rfl
theorem ru (sh:Bool)(v:Val)(m:Mk)(u:List Nat):m.puts≤(au sh v m u).2.1.puts:=by
 unfold au;split
 ·exact Nat.le_refl _
 ·exact Nat.le_succ _
theorem sk (m:Mk)(sh:Bool)(r:Int):(m.free sh r).puts=m.puts:=by unfold Mk.free; cases sh<;>rfl
theorem pf (sh:Bool)(d:Nat):∀(t:T) (m:Mk) (u:List Nat),m.puts≤(obs sh d t m u).2.1.puts:=by
 induction d with
 |zero=>intro t m u; exact Nat.le_refl _
 |succ d ih=>
  intro t m u;rw[obs];split
  ·exact ru _ _ _ _
  split
  ·exact ru _ _ _ _
  split
  ·exact ru _ _ _ _
  have hi:∀(t:T) (m:Mk) (u:List Nat) (out:Int),m.puts≤(aj sh out (obs sh d t m u)).1.puts:=fun t m u out=>by rw[qa]; exact ih t m u
  split
  ·unfold chosen iq;simp only;rw[sk];have h1:=hi (t.kid 0) m.reg u m.next;generalize aj sh m.next (obs sh d (t.kid 0) m.reg u)=A at *;exact Nat.le_trans h1 (hi (t.kid 1) (A.1.lay (ix 19 0 m.next 0)) A.2 m.next)
  split
  ·unfold chosen jy;simp only;rw[sk];have h1:=hi (t.kid 0) m.reg u m.next;generalize aj sh m.next (obs sh d (t.kid 0) m.reg u)=A at *;exact Nat.le_trans h1 (hi (t.kid 1) (((A.1.lay (ix 19 0 m.next 0)).lay (ix 20 0 0 0)).here A.1.ins.length) A.2 m.next)
  split
  ·unfold chosen jz;simp only;rw[sk];have h1:=hi (t.kid 0) m.reg u m.next;generalize aj sh m.next (obs sh d (t.kid 0) m.reg u)=A at *;have h2:=hi (t.kid 1) (A.1.lay (ix 19 0 m.next 0)) A.2 m.next;generalize aj sh m.next (obs sh d (t.kid 1) (A.1.lay (ix 19 0 m.next 0)) A.2)=C at *;exact Nat.le_trans (Nat.le_trans h1 h2) (hi (t.kid 2) (((C.1.back (A.1.lay (ix 19 0 m.next 0)).known).lay (ix 20 0 0 0)).here A.1.ins.length) C.2 m.next)
  ·unfold me;simp only;have h1:=ih (t.kid 0) m u;have h2:∀ b:Ob,b=(if 1<t.ks.length then obs sh d (t.kid 1) (obs sh d (t.kid 0) m u).2.1 (obs sh d (t.kid 0) m u).2.2 else(0,(obs sh d (t.kid 0) m u).2.1,(obs sh d (t.kid 0) m u).2.2))→m.puts≤b.2.1.puts:=by
    rintro b rfl;split
    ·exact Nat.le_trans h1 (ih _ _ _)
    ·exact h1
   split
   ·exact Nat.le_trans (h2 _ rfl) (ru _ _ _ _)
   ·rw[sk]; exact h2 _ rfl
theorem ej (sh:Bool)(out:Int)(o:Ob):(aj sh out o).1.ins.length=o.2.1.ins.length+1:=by
 unfold aj Mk.free Mk.lay;cases sh<;>simp
theorem od (sh:Bool)(v:Val)(m:Mk)(u:List Nat):m.ins.length≤(au sh v m u).2.1.ins.length:=by
 unfold au;split
 ·exact Nat.le_refl _
 ·show m.ins.length≤(m.ins++[_]).length; simp
theorem ah (m:Mk)(x:Gen.Ix):(m.lay x).ins.length=m.ins.length+1:=by simp[Mk.lay]
theorem ak (m:Mk)(p:Nat):(m.here p).ins.length=m.ins.length:=by simp[Mk.here,toHere]
theorem ao (m:Mk)(k:Val→Option Int):(m.back k).ins.length=m.ins.length:=rfl
theorem nz (m:Mk):m.reg.ins.length=m.ins.length:=rfl
theorem df (m:Mk)(sh:Bool)(r:Int):(m.free sh r).ins.length=m.ins.length:=by unfold Mk.free; cases sh<;>rfl
theorem bm (sh:Bool)(d:Nat):∀(t:T) (m:Mk) (u:List Nat),m.ins.length≤(obs sh d t m u).2.1.ins.length:=by
 induction d with
 |zero=>intro t m u; exact Nat.le_refl _
 |succ d ih=>
  intro t m u;rw[obs];split
  ·exact od _ _ _ _
  split
  ·exact od _ _ _ _
  split
  ·exact od _ _ _ _
  have hi:∀(t:T) (m:Mk) (u:List Nat) (out:Int),m.ins.length≤(aj sh out (obs sh d t m u)).1.ins.length:=fun t m u out=>by rw[ej]; exact Nat.le_succ_of_le (ih t m u)
  split
  ·unfold chosen iq;simp only;simp only[df,ak,ao];have h1:=hi (t.kid 0) m.reg u m.next;rw[nz] at h1;generalize aj sh m.next (obs sh d (t.kid 0) m.reg u)=A at *;have h2:=hi (t.kid 1) (A.1.lay (ix 19 0 m.next 0)) A.2 m.next;rw[ah] at h2;omega
  split
  ·unfold chosen jy;simp only;simp only[df,ak,ao];have h1:=hi (t.kid 0) m.reg u m.next;rw[nz] at h1;generalize aj sh m.next (obs sh d (t.kid 0) m.reg u)=A at *;have h2:=hi (t.kid 1) (((A.1.lay (ix 19 0 m.next 0)).lay (ix 20 0 0 0)).here A.1.ins.length) A.2 m.next;rw[ak,ah,ah] at h2;omega
  split
  ·unfold chosen jz;simp only;simp only[df,ak,ao];have h1:=hi (t.kid 0) m.reg u m.next;rw[nz] at h1;generalize aj sh m.next (obs sh d (t.kid 0) m.reg u)=A at *;have h2:=hi (t.kid 1) (A.1.lay (ix 19 0 m.next 0)) A.2 m.next;rw[ah] at h2;generalize aj sh m.next (obs sh d (t.kid 1) (A.1.lay (ix 19 0 m.next 0)) A.2)=C at *;have h3:=hi (t.kid 2) (((C.1.back (A.1.lay (ix 19 0 m.next 0)).known).lay (ix 20 0 0 0)).here A.1.ins.length) C.2 m.next;rw[ak,ah,ao] at h3;omega
  ·unfold me;simp only;have h1:=ih (t.kid 0) m u;have h2:∀ b:Ob,b=(if 1<t.ks.length then obs sh d (t.kid 1) (obs sh d (t.kid 0) m u).2.1 (obs sh d (t.kid 0) m u).2.2 else(0,(obs sh d (t.kid 0) m u).2.1,(obs sh d (t.kid 0) m u).2.2))→m.ins.length≤b.2.1.ins.length:=by
    rintro b rfl;split
    ·exact Nat.le_trans h1 (ih _ _ _)
    ·exact h1
   split
   ·exact Nat.le_trans (h2 _ rfl) (od _ _ _ _)
   ·rw[df,ah]; exact Nat.le_succ_of_le (h2 _ rfl)
theorem iz {ob:T→Mk→List Nat→Ob}{sh:Bool}{t a:T}{m:Mk}{u:List Nat}{o:Ob}(hl:¬1<t.ks.length)(hk:t.kid 0=a)(ho:ob a m u=o):
  me ob sh t m u=if sh=true then au sh ⟨ai t.op,0,txt0,o.1,0⟩ o.2.1 o.2.2 else(o.1,(o.2.1.lay ⟨ai t.op,o.1,o.1,0,0,txt0,0⟩).free sh (m.next+1),o.2.2):=by
 unfold me;simp only[hk,ho,if_neg hl]
theorem iy {ob:T→Mk→List Nat→Ob}{sh:Bool}{t a b:T}{m:Mk}{u:List Nat}{o p:Ob}(hl:1<t.ks.length)(hk:t.kid 0=a)(ho:ob a m u=o)(A0:t.kid 1=b)(hp:ob b o.2.1 o.2.2=p):
  me ob sh t m u=if sh=true then au sh ⟨ai t.op,0,txt0,o.1,p.1⟩ p.2.1 p.2.2 else(o.1,(p.2.1.lay ⟨ai t.op,o.1,o.1,p.1,0,txt0,0⟩).free sh (m.next+1),p.2.2):=by
 unfold me;simp only[hk,ho,if_pos hl,A0,hp]
end Gf
end
section
open Go.RowKit
open Rw
set_option maxRecDepth 100000
namespace Gf
open Co
theorem fy {op n:Int}{s:ByteArray}{ks:List T}:cr (.mk op n s ks)=(op == 4 || ks.any cr):=by
 have h:∀ l:List T,(gz l).any (fun x=>x.1 == 4)=l.any cr:=by
  intro l;induction l with
  |nil=>rfl
  |cons a r ih=>rw[gz,List.any_append,ih,List.any_cons]; rfl
 unfold cr;rw[T.nodes,List.any_cons,h];rfl
theorem zhx {α:Type}(f:α→Bool)(l:List α)(i:Nat)(a:α)(h:l[i]? = some a):(l.take (i+1)).any f=((l.take i).any f || f a):=by
 rw[List.take_succ_eq_append_getElem (List.getElem?_eq_some_iff.1 h).1,List.any_append]
 have:=(List.getElem?_eq_some_iff.1 h).2;simp[this]
theorem dz {B:Nat}{W:World}{t:T}{q:Option Addr}{i:Nat}{k:T}(h:∀ i k,t.ks[i]? = some k→∃ vk,RowAt B W q i vk∧CoreAt B W k vk)(hk:t.ks[i]? = some k):
  ∃ b off kop kn kst pk kl ck,q=some ⟨b,off,none⟩∧b<B∧CoreAt B W k (.agg #[.int .i64 kop,.int .i64 kn,.string kst,.slice pk kl ck]) ∧
   W.cell? ⟨b,off+i * 4,none⟩=some (.int .i64 kop)∧W.cell? ⟨b,off+i * 4+1,none⟩=some (.int .i64 kn)∧W.cell? ⟨b,off+i * 4+2,none⟩=some (.string kst)∧W.cell? ⟨b,off+i * 4+3,none⟩=some (.slice pk kl ck):=by
 obtain⟨vk,⟨b,off,x,y,z,u,e,hl,hv,h0,h1,h2,h3⟩,hc⟩:=h i k hk;obtain⟨pk,ck,e2, -⟩:=hc.open;rw[e2] at hv;simp at hv;obtain⟨rfl,rfl,rfl,rfl⟩:=hv;exact⟨b,off,_,_,_,_,_,_,e,hl,e2▸hc,h0,h1,h2,h3⟩
theorem kids_kept {B:Nat}{W W':World}{t:T}{q:Option Addr}(h:∀ i k,t.ks[i]? = some k→∃ vk,RowAt B W q i vk∧CoreAt B W k vk)(b:Below B W W'):∀ i k,t.ks[i]? = some k→∃ vk,RowAt B W' q i vk∧CoreAt B W' k vk:=by
 intro i k hk;obtain⟨vk,h1,h2⟩:=h i k hk;exact⟨vk,h1.kept b (Nat.le_refl _),h2.kept b (Nat.le_refl _)⟩
set_option maxHeartbeats 4000000 in
theorem zrf (t:T):∀(B:Nat) (v:Value) (w:World),CoreAt B w t v→B≤w.heap.size→Calls Tryz.prog 101 #[v] w (ar (.bool (cr t)) w):=by
 induction t using T.ind with|h op n s ks ih=>?_
 intro B v w hv hB;obtain⟨q,c,rfl,hc,ho,hn,hs,hk⟩:=hv.open;have HK:=aa (show ∀ i k,(T.mk op n s ks).ks[i]? = some k→∃ vk,RowAt B w q i vk∧CoreAt B w k vk from hk);simp only[T.op,T.n,T.s,T.ks] at hc ho hn hs ⊢;have B3:=aa ih;have HC:=aa hc;have A6:=aa hB;have B0:=(Below.refl w.heap.size w).alloc (Nat.le_refl _) (.cells #[.int .i64 op,.int .i64 n,.string s,.slice q ks.length c] 24);have A2:=aa (heap_alloc_new w (.cells #[.int .i64 op,.int .i64 n,.string s,.slice q ks.length c] 24));have A9:=aa B0;have HF:=aa (fy (op:=op) (n:=n) (s:=s) (ks:=ks));have B9:=aa (show ks.length≤9223372036854775806∨True from .inr trivial);clear B0 hv hB hk hc ih ho hn hs;go_enter Tryz.func101,Tryz.ntmps101;go_upto_region 1 with(fail)
 generalize World.alloc _ _=w1 at *;have c0:=ab A2.out 0 _ rfl;have c3:=ab A2.out 3 _ rfl;by_cases h4:op=4
 ·subst h4;go_wp2_with fail
  go_ret;exact⟨by rw[HF.out]; rfl,A9.out⟩
 ·have g4:((op:Int) == 4)=false:=by simpa using h4
  have B4:=aa g4;clear h4;go_wp2_with fail
  go_loopw [11] (fun iv wr=>∃(i:Nat),iv=.int .i64 (i:Int)∧i≤ks.length∧Hid (Below w.heap.size w wr∧Below w1.heap.size w1 wr∧(ks.take i).any cr=false)) (fun iv _=>ks.length - (intOf iv).toNat)
  case atStart=>exact⟨0,rfl,Nat.zero_le _,aa ⟨A9.out,Below.refl _ _,rfl⟩⟩
  case round=>
   obtain⟨i,rfl,hi,HJ⟩:=hrel;by_cases B1:i<ks.length
   ·obtain⟨k,A3⟩:∃ k,ks[i]? = some k:=⟨_,List.getElem?_eq_getElem B1⟩
    obtain⟨b,off,kop,kn,kst,pk,kl,ck,rfl,B7,A7,r0,r1,r2,r3⟩:=dz (kids_kept HK.out (HJ.out.1.mono A6.out)) A3;have B2:=aa A7;have A8:=HC.out;have g0:decide ((i:Int)<(ks.length:Int))=true:=by simp; omega
    have j1:(0:Int)≤(i:Int):=by omega
    have j2:(i:Int)<(ks.length:Int):=by omega
    have B8:IntKind.i64.wrap ((i:Int)+1)=(i:Int)+1:=IntWalk.i64_in _ (by have:=A8.2; unfold maxLen at this; omega);have A4:=aa A3;have ba:=(Below.refl wr.heap.size wr).alloc (Nat.le_refl _) (.cells #[.int .i64 kop,.int .i64 kn,.string kst,.slice pk kl ck] 24);have nn:=heap_alloc_new wr (.cells #[.int .i64 kop,.int .i64 kn,.string kst,.slice pk kl ck] 24);have B6:=aa ba;have A5:=aa (And.intro (Below.more HJ.out.1 ba) (Below.more HJ.out.2.1 ba));have A1:=aa nn;clear A3 A7 A8 ba nn;go_upto_region 6 with(fail)
    clear r0 r1 r2 r3;generalize World.alloc wr _=w2 at *;have k0:=ab A1.out 0 _ rfl;have k1:=ab A1.out 1 _ rfl;have k2:=ab A1.out 2 _ rfl;have k3:=ab A1.out 3 _ rfl;have B5:=aa (B3.out k (List.mem_of_getElem? A4.out) B _ w2 (B2.out.kept (B6.out.mono (Nat.le_trans A6.out HJ.out.1.size)) (Nat.le_refl _)) (Nat.le_trans A6.out A5.out.1.size));go_wp2_with fail
    refine B5.out.mono ?_;rintro e w3 ⟨rfl,b3⟩;have A0:=aa (And.intro (Below.more A5.out.1 b3) (Below.more A5.out.2 b3));have c0:=ab (ag A0.out.2 A2.out) 0 _ rfl;have c3:=ab (ag A0.out.2 A2.out) 3 _ rfl;have HT:=aa (zhx cr ks i k A4.out);clear b3 k0 k1 k2 k3;obtain⟨f,hf⟩:∃ f,Hid (cr k=f):=⟨_,aa rfl⟩
    rw[hf.out];cases f with
    |true=>
     go_wp2_with fail
     go_ret;refine⟨?_,A0.out.1⟩;rw[HF.out]
     have:ks.any cr=true:=List.any_eq_true.2 ⟨k,List.mem_of_getElem? A4.out,hf.out⟩;rw[this,Bool.or_true];rfl
    |false=>
     go_wp2_with fail
     go_roundw;case rel=>exact⟨i+1,by simp,by omega,aa ⟨A0.out.1,A0.out.2,by rw[HT.out,HJ.out.2.2,hf.out]; rfl⟩⟩
     case measure=>simp[intOf]; omega
   ·obtain rfl:i=ks.length:=by omega
    go_wp2_with fail
    go_ret;refine⟨?_,HJ.out.1⟩
    have:=HJ.out.2.2;rw[List.take_length] at this;rw[HF.out,this,B4.out];rfl
theorem zjk {t:T}{i:Nat}{k:T}(h:t.ks[i]? = some k):t.kid i=k:=by unfold T.kid; rw[h]; rfl
set_option maxHeartbeats 4000000 in
theorem zgj (t:T)(B:Nat)(v:Value)(w:World)(hv:CoreAt B w t v)(hB:B≤w.heap.size)(hx:t.op=26∨t.op=28→0<t.ks.length):Calls Tryz.prog 49 #[v] w (ar (.bool (bp t)) w):=by
 obtain⟨q,c,rfl,hc,ho,hn,hs,hk⟩:=hv.open;obtain⟨op,n,s,ks⟩:=t;have HK:=aa hk;simp only[T.op,T.n,T.s,T.ks] at hc ho hn hs hx ⊢;have B0:=(Below.refl w.heap.size w).alloc (Nat.le_refl _) (.cells #[.int .i64 op,.int .i64 n,.string s,.slice q ks.length c] 24);have A3:=aa (heap_alloc_new w (.cells #[.int .i64 op,.int .i64 n,.string s,.slice q ks.length c] 24));have A0:=aa B0;have HX:=aa hx;have A4:=aa hB;clear B0 hv hB hk hc ho hn hs hx;go_enter Tryz.func49,Tryz.ntmps49;go_upto_region 1 with(fail)
 generalize World.alloc _ _=w1 at *;have c0:=ab A3.out 0 _ rfl;have c3:=ab A3.out 3 _ rfl;by_cases h1:op=29∨op=30∨op=31
 ·have HE:=aa (show bp (T.mk op n s ks)=true from if_pos h1);rcases h1 with rfl|rfl|rfl;all_goals go_wp2_with fail
  all_goals go_ret
  all_goals exact⟨by rw[HE.out]; rfl,A0.out⟩
 ·have B2:((op:Int) == 29)=false:=by simpa using fun e=>h1 (.inl e)
  have B1:((op:Int) == 30)=false:=by simpa using fun e=>h1 (.inr (.inl e))
  have A9:((op:Int) == 31)=false:=by simpa using fun e=>h1 (.inr (.inr e))
  by_cases h2:op=26∨op=28
  ·have HE:=aa (show bp (T.mk op n s ks)=cr ((T.mk op n s ks).kid 0) from(if_neg h1).trans (if_pos h2));have hl:=HX.out h2;obtain⟨k,A1⟩:∃ k,(T.mk op n s ks).ks[0]? = some k:=⟨_,List.getElem?_eq_getElem hl⟩
   obtain⟨b,off,kop,kn,kst,pk,kl,ck,rfl,A8,A2,r0,r1,r2,r3⟩:=dz (kids_kept HK.out (A0.out.mono A4.out)) A1;have A6:=aa (zrf k B _ w1 A2 (Nat.le_trans A4.out A0.out.size));have A5:=aa (zjk A1);have j2:(0:Int)<(ks.length:Int):=by omega
   simp only[Nat.zero_mul,Nat.add_zero] at r0 r1 r2 r3;clear hl A1 A2 h1;rcases h2 with rfl|rfl;all_goals go_wp2_with fail
   all_goals refine A6.out.mono ?_
   all_goals rintro e w3 ⟨rfl,b3⟩
   all_goals have A7:=aa (Below.more A0.out b3)
   all_goals clear b3
   all_goals go_wp2_with fail
   all_goals go_ret
   all_goals exact⟨by rw[HE.out,A5.out]; rfl,A7.out⟩
  ·have HE:=aa (show bp (T.mk op n s ks)=false from(if_neg h1).trans (if_neg h2));have B4:((op:Int) == 26)=false:=by simpa using fun e=>h2 (.inl e)
   have B3:((op:Int) == 28)=false:=by simpa using fun e=>h2 (.inr e)
   clear h1 h2;go_wp2_with fail
   go_ret;exact⟨by rw[HE.out]; rfl,A0.out⟩
theorem znk (ks:List T)(i:Nat)(k:T)(h:ks[i]? = some k):bi (ks.take (i+1))=bi (ks.take i)+dd k:=by
 have A0:∀ a b:List T,bi (a++b)=bi a+bi b:=by
  intro a b;induction a with
  |nil=>simp[bi]
  |cons x r ih=>rw[List.cons_append,bi,bi,ih]; omega
 rw[List.take_succ_eq_append_getElem (List.getElem?_eq_some_iff.1 h).1,A0]
 have:=(List.getElem?_eq_some_iff.1 h).2;simp[this,bi]
theorem zqf (t:T):dd t≤t.size:=by
 induction t using T.ind with|h op n s ks ih=>?_
 have hl:∀ l:List T,(∀ k∈l,dd k≤k.size)→bi l≤sizes l:=by
  intro l;induction l with
  |nil=>intro _; simp[bi,sizes]
  |cons a r ih2=>
   intro h
   have:=h a (by simp)
   have:=ih2 fun k hk=>h k (by simp[hk]);rw[bi,sizes]; omega
 have:=hl ks ih;rw[dd,T.size];split<;>omega
set_option maxHeartbeats 4000000 in
theorem zug (t:T):∀(B:Nat) (v:Value) (w:World),CoreAt B w t v→B≤w.heap.size→t.letter≠0→t.size≤2000000→Calls Tryz.prog 20 #[v] w (ar (.int .i64 (dd t)) w):=by
 induction t using T.ind with|h op n s ks ih=>?_
 intro B v w hv hB hx A4;have A9:(T.mk op n s ks).op=26∨(T.mk op n s ks).op=28→0<(T.mk op n s ks).ks.length:=by
  rintro (rfl|rfl)
  ·obtain⟨hw, -⟩:=letter_inv rfl hx (by decide);have A0:some ([110,99],(99:UInt8))=some (ks.map T.letter,_):=want_26.symm.trans hw;simp only[Option.some.injEq,Prod.mk.injEq] at A0
   have:=congrArg List.length A0.1;simp at this;show 0<ks.length
   omega
  ·obtain⟨hw, -⟩:=letter_inv rfl hx (by decide);have A0:some ([98,99,99],(99:UInt8))=some (ks.map T.letter,_):=want_28.symm.trans hw;simp only[Option.some.injEq,Prod.mk.injEq] at A0
   have:=congrArg List.length A0.1;simp at this;show 0<ks.length
   omega
 have HW:=aa (fun (W:World) (b:Below w.heap.size w W)=>zgj (T.mk op n s ks) B v W (hv.kept (b.mono hB) (Nat.le_refl _)) (Nat.le_trans hB b.size) A9);obtain⟨q,c,rfl,hc,ho,hn,hs,hk⟩:=hv.open;have HK:=aa (show ∀ i k,(T.mk op n s ks).ks[i]? = some k→∃ vk,RowAt B w q i vk∧CoreAt B w k vk from hk);simp only[T.op,T.n,T.s,T.ks] at hc ho hn hs ⊢;simp only[T.op,T.n,T.s,T.ks] at HW;have C5:=aa (fun k hk B v w h1 h2=>ih k hk B v w h1 h2 (kids_ne hx k hk) (by have:=sizes_mem hk; rw[T.size] at A4; omega));have HC:=aa hc;have A8:=aa hB;have C1:=aa A4;have B0:=(Below.refl w.heap.size w).alloc (Nat.le_refl _) (.cells #[.int .i64 op,.int .i64 n,.string s,.slice q ks.length c] 24);have A1:=aa (heap_alloc_new w (.cells #[.int .i64 op,.int .i64 n,.string s,.slice q ks.length c] 24));have B6:=aa B0;clear B0 hv hB hk hc ih ho hn hs A4 A9 hx;go_enter Tryz.func20,Tryz.ntmps20;go_upto_region 2 with(fail)
 generalize World.alloc _ _=w1 at *;obtain⟨c0,c1,c2,c3⟩:(w1.cell? ⟨w.heap.size,0,none⟩=some (.int .i64 op)∧w1.cell? ⟨w.heap.size,1,none⟩=some (.int .i64 n)∧w1.cell? ⟨w.heap.size,2,none⟩=some (.string s)∧w1.cell? ⟨w.heap.size,3,none⟩=some (.slice q ks.length c)):=⟨ab A1.out 0 _ rfl,ab A1.out 1 _ rfl,ab A1.out 2 _ rfl,ab A1.out 3 _ rfl⟩
 obtain⟨wt,B1⟩:∃ f,Hid (bp (T.mk op n s ks)=f):=⟨_,aa rfl⟩
 have HM:=aa (show dd (T.mk op n s ks)=(if wt=true then 1 else 0)+bi ks by rw[dd,B1.out]);have A5:=aa (HW.out w1 B6.out);rw[B1.out] at A5;clear HW;go_wp2_with fail
 refine A5.out.mono ?_;rintro e w2 ⟨rfl,b2⟩;have C8:=aa (Below.more B6.out b2);have B5:=aa (ag b2 A1.out);clear b2 c0 c1 c2 c3 A5;have c3:=ab B5.out 3 _ rfl;go_upto_if 7 with(fail)
 go_cut [3] (fun v wx=>v=.int .i64 (if wt=true then 1 else 0)∧w2=wx);case first=>
  cases wt;all_goals go_wp2_with fail
  all_goals go_meet
  all_goals exact⟨rfl,rfl⟩
 case rest=>
 obtain⟨rfl,rfl⟩:=hcut;obtain⟨z,hz⟩:∃ z:Int,Hid ((if wt=true then 1 else 0)=z∧0≤z∧z≤1):=⟨_,aa ⟨rfl,by split<;>omega,by split<;>omega⟩⟩
 rw[hz.out.1];go_wp2_with fail
 go_loopw [3,13] (fun nv iv wr=>∃(i:Nat),iv=.int .i64 (i:Int)∧i≤ks.length∧nv=.int .i64 (z+bi (ks.take i))∧Hid (Below w.heap.size w wr∧Below w2.heap.size w2 wr)) (fun _ iv _=>ks.length - (intOf iv).toNat)
 case atStart=>exact⟨0,rfl,Nat.zero_le _,by simp[bi],aa ⟨C8.out,Below.refl _ _⟩⟩
 case round=>
  obtain⟨i,rfl,hi,rfl,HJ⟩:=hrel;by_cases B9:i<ks.length
  ·obtain⟨k,A2⟩:∃ k,ks[i]? = some k:=⟨_,List.getElem?_eq_getElem B9⟩
   obtain⟨b,off,kop,kn,kst,pk,kl,ck,rfl,D0,B2,r0,r1,r2,r3⟩:=dz (kids_kept HK.out (HJ.out.1.mono A8.out)) A2;have C3:=aa B2;have B4:=HC.out;have g0:decide ((i:Int)<(ks.length:Int))=true:=by simp; omega
   have j1:(0:Int)≤(i:Int):=by omega
   have j2:(i:Int)<(ks.length:Int):=by omega
   have D1:IntKind.i64.wrap ((i:Int)+1)=(i:Int)+1:=IntWalk.i64_in _ (by have:=B4.2; unfold maxLen at this; omega);have B3:=znk ks i k A2;have B8:bi (ks.take i)+dd k≤2000000:=by
    have h1:=zqf (T.mk op n s ks);rw[dd] at h1;have h2:bi (ks.take (i+1))≤bi ks:=by
     conv=>rhs; rw[←List.take_append_drop (i+1) ks]
     have C0:∀ a b:List T,bi a≤bi (a++b):=by
      intro a b;induction a with
      |nil=>simp[bi]
      |cons x r ih=>rw[List.cons_append,bi,bi]; omega
     exact C0 _ _
    have:=C1.out;omega
   have B7:=hz.out.2;have C9:IntKind.i64.wrap (z+(bi (ks.take i):Int)+(dd k:Int))=z+(bi (ks.take i):Int)+(dd k:Int):=IntWalk.i64_in _ (by omega);have C2:=aa (show z+(bi (ks.take i):Int)+(dd k:Int)=z+(bi (ks.take (i+1)):Int) by rw[B3]; push_cast; omega);have C4:=aa A2;have ba:=(Below.refl wr.heap.size wr).alloc (Nat.le_refl _) (.cells #[.int .i64 kop,.int .i64 kn,.string kst,.slice pk kl ck] 24);have nn:=heap_alloc_new wr (.cells #[.int .i64 kop,.int .i64 kn,.string kst,.slice pk kl ck] 24);have C7:=aa ba;have A6:=aa (And.intro (Below.more HJ.out.1 ba) (Below.more HJ.out.2 ba));have A3:=aa nn;clear A2 B2 B4 ba nn B8 B7 B3;go_upto_region 7 with(fail)
   clear r0 r1 r2 r3;generalize World.alloc wr _=w3 at *;have k0:=ab A3.out 0 _ rfl;have k1:=ab A3.out 1 _ rfl;have k2:=ab A3.out 2 _ rfl;have k3:=ab A3.out 3 _ rfl;have C6:=aa (C5.out k (List.mem_of_getElem? C4.out) B _ w3 (C3.out.kept (C7.out.mono (Nat.le_trans A8.out HJ.out.1.size)) (Nat.le_refl _)) (Nat.le_trans A8.out A6.out.1.size));go_wp2_with fail
   refine C6.out.mono ?_;rintro e w4 ⟨rfl,b4⟩;have A7:=aa (And.intro (Below.more A6.out.1 b4) (Below.more A6.out.2 b4));have c3:=ab (ag A7.out.2 B5.out) 3 _ rfl;clear b4 k0 k1 k2 k3;go_wp2_with fail
   go_roundw;case rel=>exact⟨i+1,by simp,by omega,by rw[C2.out],aa ⟨A7.out.1,A7.out.2⟩⟩
   case measure=>simp[intOf]; omega
  ·obtain rfl:i=ks.length:=by omega
   go_wp2_with fail
   go_ret;refine⟨?_,HJ.out.1⟩;rw[HM.out];simp only[List.take_length];congr 2
   rw[←hz.out.1];split<;>simp
end Gf
end
section
open Go.RowKit
namespace Co
def bit (i:Nat):Int:=if i=0 then 1 else if i<5 then 2 else 4
def on (p:Int)(i:Nat):Bool:=(p.toNat &&& (bit i).toNat) != 0
def try1 (p:Int)(i:Nat)(t:T):Option T:=if on p i=true then rule i t else none
def fitFrom (p:Int)(t:T):Nat→Nat→Option T
 |0,_=>none
 |k+1,i=>match try1 p i t with|some u=>some u|none=>fitFrom p t k (i+1)
def fit (p:Int)(t:T):Option T:=fitFrom p t 7 0
def zu (p:Int):Nat→T→T
 |0,t=>t
 |k+1,t=>if t.ks=[] then t else match fit p t with|none=>t|some u=>zu p k u
def settle (p:Int)(t:T):T:=zu p (meas t) t
mutual
def T.rw (p:Int):T→T
 | .mk o n s ks=>settle p (.mk o n s (rws p ks))
def rws (p:Int):List T→List T
 | []=>[]
 |k::r=>k.rw p::rws p r
end
theorem rws_map (p:Int)(ks:List T):rws p ks=ks.map (T.rw p):=by
 induction ks with
 |nil=>rfl
 |cons a r ih=>rw[rws,ih]; rfl
theorem qq {p:Int}{t u:T}:∀(k i:Nat),fitFrom p t k i=some u→∃ j,rule j t=some u
 |0,_,h=>by cases h
 |k+1,i,h=>by
  rw[fitFrom] at h;cases hr:try1 p i t with
  |some v=>
   rw[hr] at h;obtain rfl:v=u:=by simpa using h
   unfold try1 at hr;split at hr
   ·exact⟨i,hr⟩
   ·cases hr
  |none=>
   rw[hr] at h;exact qq k (i+1) h
theorem fit_step {p:Int}{t u:T}(h:fit p t=some u)(hx:t.letter≠0):Step t u:=by
 obtain⟨j,hj⟩:=qq 7 0 h;exact zpg hj hx
theorem ph (t:T):1≤meas t:=by
 have:=zcm t
 have:=size_pos t;omega
theorem zgx (p:Int):∀(k k':Nat) (t:T),t.letter≠0→meas t≤k→meas t≤k'→zu p k t=zu p k' t
 |0,_,t,_,h,_=>by have:=ph t; omega
 |_+1,0,t,_,_,h=>by have:=ph t; omega
 |k+1,k'+1,t,hx,h,h'=>by
  rw[zu,zu];by_cases he:t.ks=[]
  ·rw[if_pos he,if_pos he]
  ·rw[if_neg he,if_neg he];cases hf:fit p t with
   |none=>rfl
   |some u=>
    have hs:=fit_step hf hx;exact zgx p k k' u (by rw[hs.letter]; exact hx) (by have:=hs.meas; omega) (by have:=hs.meas; omega)
theorem settle_stop {p:Int}{t:T}(h:t.ks=[]∨fit p t=none):settle p t=t:=by
 obtain⟨k,hk⟩:∃ k,meas t=k+1:=⟨meas t - 1,by have:=ph t; omega⟩
 unfold settle;rw[hk,zu];rcases h with h|h
 ·rw[if_pos h]
 ·rw[h];split<;>rfl
theorem settle_go {p:Int}{t u:T}(hx:t.letter≠0)(h:t.ks≠[])(hf:fit p t=some u):settle p t=settle p u:=by
 obtain⟨k,hk⟩:∃ k,meas t=k+1:=⟨meas t - 1,by have:=ph t; omega⟩
 have hs:=fit_step hf hx;show zu p (meas t) t=_
 rw[hk,zu,if_neg h,hf];exact zgx p k (meas u) u (by rw[hs.letter]; exact hx) (by have:=hs.meas; omega) (Nat.le_refl _)
inductive Normal (p:Int):T→Prop
 |mk {op n:Int} {s:ByteArray} {ks:List T}:(∀ k∈ks,Normal p k)→(ks=[]∨fit p (.mk op n s ks)=none)→Normal p (.mk op n s ks)
theorem Normal.kids {p:Int}{t:T}(h:Normal p t):∀ k∈t.ks,Normal p k:=by cases h with|mk h1 h2=>exact h1
theorem zgu {p:Int}{t:T}(h1:∀ k∈t.ks,Normal p k)(h2:t.ks=[]∨fit p t=none):Normal p t:=by cases t with|mk o n s ks=>exact .mk h1 h2
structure Kept (t u:T):Prop where
 letter:u.letter=t.letter
 size:u.size≤t.size
 depth:u.depth≤t.depth
 nodes:∀ x∈u.nodes,x∈t.nodes∨x.1=1∨x.1=2∨x.1=3∨x.1=23
theorem Kept.refl (t:T):Kept t t:=⟨rfl,Nat.le_refl _,Nat.le_refl _,fun _ h=>.inl h⟩
theorem Kept.trans {t u v:T}(h:Kept t u)(k:Kept u v):Kept t v:=
 ⟨k.letter.trans h.letter,Nat.le_trans k.size h.size,Nat.le_trans k.depth h.depth,fun x hx=>(k.nodes x hx).elim (h.nodes x) .inr⟩
theorem Step.kept {t u:T}(h:Step t u):Kept t u:=⟨h.letter,h.size,h.depth,h.nodes⟩
theorem zcy (p:Int):∀(m:Nat) (t:T),meas t≤m→t.letter≠0→(∀ k∈t.ks,Normal p k)→Normal p (settle p t)∧Kept t (settle p t)
 |0,t,h,_,_=>by have:=ph t; omega
 |m+1,t,h,hx,hk=>by
  by_cases he:t.ks=[]
  ·rw[settle_stop (.inl he)];exact⟨zgu hk (.inl he),.refl t⟩
  ·cases hf:fit p t with
   |none=>
    rw[settle_stop (.inr hf)];exact⟨zgu hk (.inr hf),.refl t⟩
   |some u=>
    have hs:=fit_step hf hx;rw[settle_go hx he hf];obtain⟨h1,h2⟩:=zcy p m u (by have:=hs.meas; omega) (by rw[hs.letter]; exact hx)
     (hs.kids (Normal p) hk (fun k h=>h.kids) (.mk (fun k h=>by cases h) (.inl rfl)))
    exact⟨h1,hs.kept.trans h2⟩
theorem zgo {f:T→T}:∀(ks:List T),(∀ k∈ks,(f k).size≤k.size)→sizes (ks.map f)≤sizes ks
 | [],_=>Nat.le_refl _
 |k::r,h=>by
  have h1:=h k (List.mem_cons_self ..);have h2:=zgo r (fun k hk=>h k (List.mem_cons_of_mem _ hk));rw[List.map_cons,sizes,sizes];omega
theorem zez {f:T→T}:∀(ks:List T),(∀ k∈ks,(f k).depth≤k.depth)→gv (ks.map f)≤gv ks
 | [],_=>Nat.le_refl _
 |k::r,h=>by
  have h1:=h k (List.mem_cons_self ..);have h2:=zez r (fun k hk=>h k (List.mem_cons_of_mem _ hk));rw[List.map_cons,gv,gv];omega
theorem kids_kept {op n:Int}{s:ByteArray}{ks:List T}{f:T→T}(h:∀ k∈ks,Kept k (f k)):Kept (.mk op n s ks) (.mk op n s (ks.map f)):=by
 refine⟨letter_congr ?_,?_,?_,fun x hx=>?_⟩
 ·rw[List.map_map];exact List.map_congr_left fun k hk=>(h k hk).letter
 ·have:=zgo ks (fun k hk=>(h k hk).size);rw[T.size,T.size]; omega
 ·have:=zez ks (fun k hk=>(h k hk).depth);rw[T.depth,T.depth]; omega
 ·rw[T.nodes] at hx ⊢;rcases List.mem_cons.1 hx with rfl|hx
  ·exact .inl (List.mem_cons_self ..)
  ·obtain⟨k',A1,A0⟩:=mem_nodess.1 hx;obtain⟨k,hk,rfl⟩:=List.mem_map.1 A1;rcases(h k hk).nodes x A0 with h1|h1
   ·exact .inl (List.mem_cons_of_mem _ (mem_nodess.2 ⟨k,hk,h1⟩))
   ·exact .inr h1
theorem rw_spec (p:Int)(t:T):t.letter≠0→Normal p (t.rw p)∧Kept t (t.rw p):=by
 induction t using T.ind with|h op n s ks ih=>?_
 intro hx;have hk:=kids_ne hx;rw[T.rw,rws_map];have A0:Kept (.mk op n s ks) (.mk op n s (ks.map (T.rw p))):=kids_kept fun k h=>(ih k h (hk k h)).2;obtain⟨h1,h2⟩:=zcy p _ (.mk op n s (ks.map (T.rw p))) (Nat.le_refl _) (by rw[A0.letter]; exact hx) (fun k h=>by
  obtain⟨j,hj,rfl⟩:=List.mem_map.1 h;exact(ih j hj (hk j hj)).1)
 exact⟨h1,A0.trans h2⟩
theorem Kept.good {t u:T}(h:Kept t u)(hg:t.good):u.good:=by
 obtain⟨h1,h2,h3⟩:=hg;rw[sf] at h1;refine⟨(sf u).2 ⟨Nat.le_trans h.size h1.1,Nat.le_trans h.depth h1.2⟩,by rw[h.letter]; exact h2,?_⟩;unfold T.ahead at h3 ⊢;rw[List.any_eq_false] at h3 ⊢;intro x hx;rcases h.nodes x hx with h'|h'|h'|h'|h'
 ·exact h3 x h'
 all_goals rw[h']; simp
theorem zfo {p:Int}{t:T}(h:t.good):(t.rw p).good:=(rw_spec p t (by rw[h.2.1]; decide)).2.good h
end Co
end
section
open Go.RowKit
namespace Gf
open Co
structure Less (t u:T):Prop where
 many:dd u≤dd t
 feeds:cr u=true→cr t=true
theorem Less.refl (t:T):Less t t:=⟨Nat.le_refl _,id⟩
theorem Less.trans {t u v:T}(h:Less t u)(k:Less u v):Less t v:=⟨Nat.le_trans k.many h.many,fun e=>h.feeds (k.feeds e)⟩
theorem zbl {ks:List T}{k:T}(h:k∈ks):dd k≤bi ks:=by
 induction ks with
 |nil=>cases h
 |cons a r ih=>
  rw[bi];rcases List.mem_cons.1 h with rfl|h
  ·omega
  ·have:=ih h; omega
theorem uq {t k:T}(h:k∈t.ks):Less t k:=by
 obtain⟨op,n,s,ks⟩:=t;have h':k∈ks:=h;refine⟨?_,fun e=>?_⟩
 ·have:=zbl h';rw[dd]; omega
 ·rw[fy,Bool.or_eq_true];exact .inr (List.any_eq_true.2 ⟨k,h',e⟩)
theorem zqh (t:T){u:T}(h1:dd u=0)(h2:cr u=false):Less t u:=⟨by omega,fun e=>by rw[h2] at e; cases e⟩
theorem zqk (t:T)(op n:Int)(h:op=1∨op=2∨op=3∨op=23):Less t (leaf op n):=by
 rcases h with rfl|rfl|rfl|rfl<;>exact zqh t rfl rfl
theorem zxk {t:T}{i:Nat}(h:i<t.ks.length):t.kid i∈t.ks:=by
 unfold T.kid;rw[List.getElem?_eq_getElem h];exact List.getElem_mem h
theorem ry {t:T}{i:Nat}(h:i<t.ks.length):Less t (t.kid i):=uq (zxk h)
theorem zqi {op n:Int}{s:ByteArray}{ks:List T}{f:T→T}(h:∀ k∈ks,Less k (f k)):Less (.mk op n s ks) (.mk op n s (ks.map f)):=by
 have hf:cr (T.mk op n s (ks.map f))=true→cr (T.mk op n s ks)=true:=by
  rw[fy,fy,Bool.or_eq_true,Bool.or_eq_true];rintro (e|e)
  ·exact .inl e
  ·right;rw[List.any_map,List.any_eq_true] at e;obtain⟨k,hk,e⟩:=e;exact List.any_eq_true.2 ⟨k,hk,(h k hk).feeds e⟩
 have hm:∀ l:List T,(∀ k∈l,Less k (f k))→bi (l.map f)≤bi l:=by
  intro l;induction l with
  |nil=>intro _; exact Nat.le_refl _
  |cons a r ih=>
   intro h;have h1:=(h a (by simp)).many;have h2:=ih fun k hk=>h k (by simp[hk]);rw[List.map_cons,bi,bi];omega
 have hw:bp (T.mk op n s (ks.map f))=true→bp (T.mk op n s ks)=true:=by
  intro e;unfold bp at e ⊢;split at e
  ·rename_i h1;exact if_pos h1
  ·rename_i h1;refine(if_neg h1).trans ?_;split at e
   ·rename_i h2;refine(if_pos h2).trans ?_;cases ks with
    |nil=>exact e
    |cons a r=>exact(h a (by simp)).feeds e
   ·cases e
 refine⟨?_,hf⟩;rw[dd,dd]
 have:=hm ks h;cases hb:bp (T.mk op n s (ks.map f)) with
 |true=>rw[hw hb]; omega
 |false=>simp only[Bool.false_eq_true,if_false]; omega
theorem zbs {t:T}{i:Nat}(h:(t.kid i).op≠0):t.kid i∈t.ks:=by
 unfold T.kid at h ⊢;cases hk:t.ks[i]? with
 |none=>rw[hk] at h; exact absurd rfl h
 |some k=>exact List.mem_of_getElem? hk
theorem one_kid {t:T}(hx:t.letter≠0)(h:t.op=6∨t.op=14∨t.op=25):t.ks.length=1:=by
 obtain⟨op,n,s,ks⟩:=t;have h':op=6∨op=14∨op=25:=h;obtain⟨hw, -⟩:=letter_inv rfl hx (by omega);rcases h' with rfl|rfl|rfl
 ·show ks.length=1; rw[want_6] at hw; have:=congrArg (fun x=>(x.getD ([],0)).1.length) hw; simpa using this.symm
 ·show ks.length=1; rw[want_14] at hw; have:=congrArg (fun x=>(x.getD ([],0)).1.length) hw; simpa using this.symm
 ·show ks.length=1; rw[want_25] at hw; have:=congrArg (fun x=>(x.getD ([],0)).1.length) hw; simpa using this.symm
theorem py (op n:Int)(s:ByteArray)(ks:List T):dd (.mk op n s ks)=(if bp (.mk op n s ks)=true then 1 else 0)+bi ks:=by rw[dd]
theorem ug {op n:Int}{s:ByteArray}{ks:List T}(h:op=29∨op=30∨op=31):bp (.mk op n s ks)=true:=by
 unfold bp;exact if_pos h
theorem zph {i:Nat}{t u:T}(h:rule i t=some u)(hx:t.letter≠0):Less t u:=by
 match i,h with
 |0,h=>
  simp only[rule] at h;unfold fold at h;split at h
  ·by_cases A1:t.op=22
   ·rw[A1] at h; simp[foldOp] at h
   ·obtain⟨op,n,s,ks⟩:=t;obtain⟨hw, -⟩:=letter_inv rfl hx A1;obtain⟨o,n,rfl,ho, -⟩:=zau h hw;exact zqk _ o n (by omega)
  ·cases h
 |1,h=>
  simp only[rule] at h;unfold twice at h;split at h
  ·rename_i h1;cases h;have hm:t.kid 0∈t.ks:=zbs (by omega);have A0:(t.kid 0).letter≠0:=by
    obtain⟨op,n,s,ks⟩:=t;exact kids_ne hx _ hm
   have hl:=one_kid A0 (by omega);exact(uq hm).trans (ry (by omega))
  ·cases h
 |2,h=>
  simp only[rule] at h;unfold idle at h;split at h
  ·rename_i h1;split at h
   ·cases h; exact ry (by omega)
   ·split at h
    ·cases h; exact ry (by omega)
    ·cases h
  ·cases h
 |3,h=>
  simp only[rule] at h;unfold settled at h;split at h
  ·rename_i h1;cases h;refine uq (zbs ?_);unfold isBool at h1;simp only[Bool.and_eq_true,beq_iff_eq] at h1;omega
  ·cases h
 |4,h=>
  simp only[rule] at h;unfold later at h;split at h
  ·rename_i h1;cases h;have hm:t.kid 0∈t.ks:=zbs (by omega);have h2:=zbl hm;have h3:=uq hm;obtain⟨op,n,s,ks⟩:=t;have ho:op=29:=h1.1;subst ho;generalize (T.mk 29 n s ks).kid 0=k at *;obtain⟨op',n',s',ks'⟩:=k;have A2:op'=29:=h1.2;subst A2;refine⟨?_,fun e=>h3.feeds ?_⟩
   ·rw[py,py,ug (.inl rfl),ug (.inl rfl)];have h4:dd (T.mk 29 n' s' ks')≤bi ks:=h2;rw[py,ug (.inl rfl)] at h4;simp only[T.ks,if_true] at h4 ⊢;omega
   ·rw[fy] at e ⊢;exact e
  ·cases h
 |5,h=>
  simp only[rule] at h;unfold Co.chosen at h;split at h
  ·rename_i h1;cases h;have hm:t.kid 0∈t.ks:=zbs (by omega);have hl:t.ks.length=3:=by
    obtain⟨op,n,s,ks⟩:=t;rcases h1.1 with h2|h2
    ·have h3:op=22:=h2;subst h3;obtain⟨a,b,c,rfl, -⟩:=(letter_22 hx).1 rfl;rfl
    ·have h3:op=28:=h2;subst h3;obtain⟨hw, -⟩:=letter_inv rfl hx (by decide);show ks.length=3
     rw[want_28] at hw; have:=congrArg (fun x=>(x.getD ([],0)).1.length) hw; simpa using this.symm
   have hb:(t.kid 0).n=0∨(t.kid 0).n=1:=by
    have A0:(t.kid 0).letter≠0:=by
     obtain⟨op,n,s,ks⟩:=t;exact kids_ne hx _ hm
    have h2:=h1.2;generalize t.kid 0=k at *;obtain⟨op,n,s,ks⟩:=k;have h3:op=2:=h2;subst h3;exact bool_of (letter_inv rfl A0 (by decide)).2
   exact ry (by omega)
  ·cases h
 |6,h=>
  simp only[rule] at h;unfold never at h;split at h
  ·rename_i h1;cases h;have A3:(t.kid 0).op=2:=by
    have h2:=h1.2.1;unfold isBool at h2;simp only[Bool.and_eq_true,beq_iff_eq] at h2;exact h2.1
   have hm:t.kid 0∈t.ks:=zbs (by omega);have h2:=zbl hm;have h3:=uq hm;obtain⟨op,n,s,ks⟩:=t;have ho:op=30:=h1.1;subst ho;refine⟨?_,fun e=>h3.feeds ?_⟩
   ·rw[py,py,ug (.inr (.inl rfl)),ug (.inr (.inl rfl))];have h4:dd ((T.mk 30 n s ks).kid 0)≤bi ks:=h2;have h5:dd (leaf 23 0)=0:=rfl;simp only[bi,h5,if_true];omega
   ·rw[fy] at e;have h5:cr (leaf 23 0)=false:=rfl;simpa [h5] using e
  ·cases h
 |(i+7),h=>simp[rule] at h
theorem zvb {p:Int}{t u:T}(h:fit p t=some u)(hx:t.letter≠0):Less t u:=by
 obtain⟨j,hj⟩:=qq 7 0 h;exact zph hj hx
theorem zkp (p:Int):∀(m:Nat) (t:T),meas t≤m→t.letter≠0→Less t (Co.settle p t):=by
 intro m;induction m with
 |zero=>intro t h; have:=ph t; omega
 |succ m ih=>
  intro t h hx;by_cases h0:t.ks=[]
  ·rw[settle_stop (.inl h0)]; exact Less.refl t
  ·cases hf:fit p t with
   |none=>rw[settle_stop (.inr hf)]; exact Less.refl t
   |some u=>
    have hs:=fit_step hf hx;rw[settle_go hx h0 hf];exact(zvb hf hx).trans (ih u (by have:=hs.meas; omega) (by rw[hs.letter]; exact hx))
theorem zxb (p:Int)(t:T):t.letter≠0→Less t (t.rw p):=by
 induction t using T.ind with|h op n s ks ih=>?_
 intro hx;have hk:∀ k∈ks,Less k (k.rw p):=fun k hk=>ih k hk (kids_ne hx k hk);have hK:∀ k∈ks,Kept k (k.rw p):=fun k hk=>(rw_spec p k (kids_ne hx k hk)).2;rw[T.rw,rws_map];refine(zqi hk).trans (zkp p _ _ (Nat.le_refl _) ?_)
 have:=(Co.kids_kept (op:=op) (n:=n) (s:=s) hK).letter;rw[this];exact hx
end Gf
end
section
open Go.RowKit
set_option maxRecDepth 100000
theorem jq (op n m:Int)(s:ByteArray)(p:Option Addr)(len c:Nat)(w:World):
  Calls Tryz.prog 137 #[.agg #[.int .i64 op,.int .i64 n,.string s,.slice p len c],.int .i64 m] w (ar (.bool (op == 1 && n == m)) w):=by
 have hb:=heap_alloc_new w (.cells #[.int .i64 op,.int .i64 n,.string s,.slice p len c] 24);obtain⟨x0,x1,x2,x3⟩:=ae hb;have hB:=aa ((Below.refl w.heap.size w).alloc (Nat.le_refl _) (.cells #[.int .i64 op,.int .i64 n,.string s,.slice p len c] 24));clear hb;cases h1:(op == 1) with
 |true=>
  have e:=aa (show(true && n == m)=(n == m) from Bool.true_and _);rw[e.out];go_enter Tryz.func137,Tryz.ntmps137;go_wp2_with fail
  all_goals
   go_ret;exact⟨by simp[*],hB.out⟩
 |false=>
  have e:=aa (show(false && n == m)=false from Bool.false_and _);rw[e.out];go_enter Tryz.func137,Tryz.ntmps137;go_wp2_with fail
  all_goals
   go_ret;exact⟨by simp[*],hB.out⟩
theorem fh (op n m:Int)(s:ByteArray)(p:Option Addr)(len c:Nat)(w:World):
  Calls Tryz.prog 138 #[.agg #[.int .i64 op,.int .i64 n,.string s,.slice p len c],.int .i64 m] w (ar (.bool (op == 2 && n == m)) w):=by
 have hb:=heap_alloc_new w (.cells #[.int .i64 op,.int .i64 n,.string s,.slice p len c] 24);obtain⟨x0,x1,x2,x3⟩:=ae hb;have hB:=aa ((Below.refl w.heap.size w).alloc (Nat.le_refl _) (.cells #[.int .i64 op,.int .i64 n,.string s,.slice p len c] 24));clear hb;cases h1:(op == 2) with
 |true=>
  have e:=aa (show(true && n == m)=(n == m) from Bool.true_and _);rw[e.out];go_enter Tryz.func138,Tryz.ntmps138;go_wp2_with fail
  all_goals
   go_ret;exact⟨by simp[*],hB.out⟩
 |false=>
  have e:=aa (show(false && n == m)=false from Bool.false_and _);rw[e.out];go_enter Tryz.func138,Tryz.ntmps138;go_wp2_with fail
  all_goals
   go_ret;exact⟨by simp[*],hB.out⟩
theorem ziy (b:Bool)(w:World):Calls Tryz.prog 135 #[.bool b] w (Ret (.int .i64 (Co.tr b)) w):=by
 cases b with
 |true=>
  go_enter Tryz.func135,Tryz.ntmps135;go_wp2_with fail
  go_ret;exact⟨rfl,rfl⟩
 |false=>
  go_enter Tryz.func135,Tryz.ntmps135;go_wp2_with fail
  go_ret;exact⟨rfl,rfl⟩
theorem zrc (n:Int)(w:World):Calls Tryz.prog 133 #[.int .i64 n] w (ar (.tuple #[ef 1 n ⟨#[]⟩,.bool true]) w):=by
 go_enter Tryz.func133,Tryz.ntmps133;go_wp2_with fail
 refine bodyPost_ret (v:=.tuple #[ef 1 n ⟨#[]⟩,.bool true]) (by simp[results,Tryz.results133,go_sem,ef]) rfl ?_;refine⟨rfl,?_⟩;exact(((Below.refl _ _).alloc (Nat.le_refl _) _))
theorem zrb (b:Bool)(w:World):Calls Tryz.prog 134 #[.bool b] w (ar (.tuple #[ef 2 (Co.tr b) ⟨#[]⟩,.bool true]) w):=by
 go_enter Tryz.func134,Tryz.ntmps134;go_wp2_with (refine(ziy _ _).mono ?_; rintro e w' ⟨rfl,rfl⟩)
 refine bodyPost_ret (v:=.tuple #[ef 2 (Co.tr b) ⟨#[]⟩,.bool true]) (by simp[results,Tryz.results134,go_sem,ef]) rfl ?_;refine⟨rfl,?_⟩;exact(((Below.refl _ _).alloc (Nat.le_refl _) _))
theorem zra (n:Int)(w:World):Calls Tryz.prog 136 #[.int .i64 n] w (ar (.tuple #[ef 3 n ⟨#[]⟩,.bool true]) w):=by
 go_enter Tryz.func136,Tryz.ntmps136;go_wp2_with fail
 refine bodyPost_ret (v:=.tuple #[ef 3 n ⟨#[]⟩,.bool true]) (by simp[results,Tryz.results136,go_sem,ef]) rfl ?_;refine⟨rfl,?_⟩;exact(((Below.refl _ _).alloc (Nat.le_refl _) _))
end
section
open Go.RowKit
set_option maxRecDepth 100000
def lg (ok:Nat→Prop)(o:Option Co.T)(w:World)(e:Ending)(w':World):Prop:=Below w.heap.size w w'∧∃ u v,e=.returned (.tuple #[v,.bool o.isSome])∧CoreIn (fun b=>ok b∨w.heap.size≤b) w' u v∧∀ x,o=some x→u=x
theorem rz {ok:Nat→Prop}{W:World}{op n:Int}(ho:I64 op)(hn:I64 n):CoreIn ok W (Co.leaf op n) (ef op n ⟨#[]⟩):=
 CoreIn.close (ks:=[]) ⟨Nat.le_refl _,Nat.zero_le _⟩ ho hn (by decide) (fun i k e=>by simp at e)
theorem rh {v:Value}{w w':World}{e:Ending}(h:Ret v w e w'):ar v w e w':=⟨h.1,by rw[h.2]; exact Below.refl _ _⟩
theorem zhc {v:Value}{w w':World}{e:Ending}(h:zcg v w e w'):ar v w e w':=by
 obtain⟨h1,n,rfl⟩:=h;exact⟨h1,Below.drewn (Below.refl _ _) n⟩
theorem uz (n:Int)(w:World):Calls Tryz.prog 133 #[.int .i64 n] w (ar (.tuple #[.agg #[.int .i64 1,.int .i64 n,.string ⟨#[]⟩,.slice none 0 0],.bool true]) w):=zrc n w
theorem zbv (b:Bool)(w:World):Calls Tryz.prog 134 #[.bool b] w (ar (.tuple #[.agg #[.int .i64 2,.int .i64 (Co.tr b),.string ⟨#[]⟩,.slice none 0 0],.bool true]) w):=zrb b w
theorem zqz (n:Int)(w:World):Calls Tryz.prog 136 #[.int .i64 n] w (ar (.tuple #[.agg #[.int .i64 3,.int .i64 n,.string ⟨#[]⟩,.slice none 0 0],.bool true]) w):=zra n w
theorem bh {W:World}{b:Nat}{x0 y0 z0 u0:Value}{T:TypeId}(h:W.heap[b]? = some (.cells #[x0,y0,z0,u0] T (0,0)))(x y z u:Value):
  ((((W.setCell ⟨b,0,none⟩ x).setCell ⟨b,1,none⟩ y).setCell ⟨b,2,none⟩ z).setCell ⟨b,3,none⟩ u).heap[b]? = some (.cells #[x,y,z,u] T (0,0)) ∧
   ∀ base,base≤b→Below base W ((((W.setCell ⟨b,0,none⟩ x).setCell ⟨b,1,none⟩ y).setCell ⟨b,2,none⟩ z).setCell ⟨b,3,none⟩ u):=by
 refine⟨?_,fun base hb=>((((Below.refl _ _).setCell (p:=⟨b,0,none⟩) hb _).setCell (p:=⟨b,1,none⟩) hb _).setCell (p:=⟨b,2,none⟩) hb _).setCell (p:=⟨b,3,none⟩) hb _⟩;have h1:=heap_setCell_same W b 0 _ T x h;have h2:=heap_setCell_same _ b 1 _ T y h1;have h3:=heap_setCell_same _ b 2 _ T z h2;have h4:=heap_setCell_same _ b 3 _ T u h3;rw[h4];simp
structure FoldIt (w:World)(t:Co.T)(cs:Array Value)(i:Nat)(a b:Int)(wr:World):Prop where
 le:i≤t.ks.length
 two:i≤2
 con:∀ j k,j<i→t.ks[j]? = some k→Co.isC k=true
 first:a=if 0<i then Co.kidN t 0 else 0
 second:b=if 1<i then Co.kidN t 1 else 0
 below:Below w.heap.size w wr
 c:wr.heap[w.heap.size]? = some (.cells cs 24 (0,0))
 r:wr.heap[w.heap.size+1]? = some (.cells #[.int .i64 0,.int .i64 0,.string ⟨#[]⟩,.slice none 0 0] 24 (0,0))
 n:wr.heap[w.heap.size+1+1]? = some (.cells #[.int .i64 a,.int .i64 b] 161 (0,0))
theorem FoldIt.alloc {w:World}{t:Co.T}{cs:Array Value}{i:Nat}{a b:Int}{wr:World}(h:FoldIt w t cs i a b wr)(o:Obj):FoldIt w t cs i a b (wr.alloc o):=by
 have hB:Below wr.heap.size wr (wr.alloc o):=(Below.refl _ _).alloc (Nat.le_refl _) _;exact⟨h.le,h.two,h.con,h.first,h.second,h.below.trans (hB.mono h.below.size),(hB.block _ (af h.c)).trans h.c,(hB.block _ (af h.r)).trans h.r,(hB.block _ (af h.n)).trans h.n⟩
theorem FoldIt.set {w:World}{t:Co.T}{cs:Array Value}{i:Nat}{a b:Int}{wr:World}(h:FoldIt w t cs i a b wr){k:Co.T}{kn:Int}(hk:t.ks[i]? = some k)(hc:Co.isC k=true)(hi:i<2)(hn:k.n=kn):
  FoldIt w t cs (i+1) (if i=0 then kn else a) (if i=1 then kn else b) (wr.setCell ⟨w.heap.size+1+1,i,none⟩ (.int .i64 kn)):=by
 have A2:=(List.getElem?_eq_some_iff.1 hk).1;have A1:Co.kidN t i=kn:=by unfold Co.kidN; rw[hk]; exact hn
 refine⟨A2,by omega,fun j k' hj A0=>?_,?_,?_,h.below.setCell (p:=⟨w.heap.size+1+1,i,none⟩) (by simp; omega) _,(Below.heap_setCell _ _ _ _ (by show w.heap.size≠w.heap.size+1+1; omega)).trans h.c,(Below.heap_setCell _ _ _ _ (by show w.heap.size+1≠w.heap.size+1+1; omega)).trans h.r,?_⟩
 ·by_cases e:j=i
  ·subst e;rw[hk] at A0;cases A0;exact hc
  ·exact h.con j k' (by omega) A0
 ·rcases(by omega:i=0∨i=1) with rfl|rfl
  ·simp[A1]
  ·simpa using h.first
 ·rcases(by omega:i=0∨i=1) with rfl|rfl
  ·simpa using h.second
  ·simp[A1]
 ·rw[heap_setCell_same _ _ _ _ _ _ h.n];rcases(by omega:i=0∨i=1) with rfl|rfl<;>simp
theorem zjl {t:Co.T}{i:Nat}(h:t.ks.length≤i):Co.kidN t i=0:=by unfold Co.kidN; rw[List.getElem?_eq_none h]; rfl
set_option maxHeartbeats 4000000 in
theorem zkv (ok:Nat→Prop)(t:Co.T)(v:Value)(w:World)(hv:CoreIn ok w t v)(B0:t.ks.length≤3)(hN:∀ k∈t.ks, -1000000000000000≤k.n∧k.n≤1000000000000000):
  Calls Tryz.prog 89 #[v] w (lg ok (Co.fold t) w):=by
 have HV:=aa hv;obtain⟨p,c,A8,hc,ho,hn,hs,hk⟩:=hv.open;obtain⟨op,C6⟩:∃ o,Hid (t.op=o):=⟨_,aa rfl⟩
 obtain⟨n,D2⟩:∃ o,Hid (t.n=o):=⟨_,aa rfl⟩
 obtain⟨s,hs'⟩:∃ o,Hid (t.s=o):=⟨_,aa rfl⟩
 obtain⟨ln,A5⟩:∃ o,Hid (t.ks.length=o):=⟨_,aa rfl⟩
 rw[C6.out,D2.out,hs'.out,A5.out] at A8;subst A8;have HK:=aa hk;have C3:=aa (show ln≤3 by rw[←A5.out]; exact B0);have HN:=aa hN;have C2:=heap_alloc_new w (.cells #[.int .i64 op,.int .i64 n,.string s,.slice p ln c] 24);clear hv hk hc ho hn hs B0 hN;obtain⟨x0,x1,x2,x3⟩:=ae C2;have D5:=aa C2;clear C2;go_enter Tryz.func89,Tryz.ntmps89;go_wp2_with fail
 generalize C4:World.alloc _ _=w0;have HI:=aa (show FoldIt w t #[.int .i64 op,.int .i64 n,.string s,.slice p ln c] 0 0 0 w0 from by
  rw[←C4];refine⟨Nat.zero_le _,by omega,fun j k h=>by omega,by simp,by simp,?_,?_,?_,?_⟩
  ·exact(((Below.refl w.heap.size w).alloc (Nat.le_refl _) _).alloc (by simp) _).alloc (by simp; omega) _
  ·exact(((Below.refl _ _).alloc (Nat.le_refl _) _).block w.heap.size (by simp; omega)).trans ((((Below.refl _ _).alloc (Nat.le_refl _) _).block w.heap.size (by simp)).trans D5.out)
  ·exact(((Below.refl _ _).alloc (Nat.le_refl _) _).block (w.heap.size+1) (by simp)).trans (by have:=heap_alloc_new (w.alloc (.cells #[.int .i64 op,.int .i64 n,.string s,.slice p ln c] 24)) (.cells #[.int .i64 0,.int .i64 0,.string ⟨#[]⟩,.slice none 0 0] 24); simpa using this)
  ·have:=heap_alloc_new ((w.alloc (.cells #[.int .i64 op,.int .i64 n,.string s,.slice p ln c] 24)).alloc (.cells #[.int .i64 0,.int .i64 0,.string ⟨#[]⟩,.slice none 0 0] 24)) (.cells #[.int .i64 0,.int .i64 0] 161);simpa using this)
 clear C4;go_loopw [15] (fun iv wr=>∃(i:Nat) (a b:Int),iv=.int .i64 (i:Int)∧Hid (FoldIt w t #[.int .i64 op,.int .i64 n,.string s,.slice p ln c] i a b wr)) (fun iv _=>ln - (intOf iv).toNat)
 case atStart=>exact⟨0,0,0,rfl,HI⟩
 case round=>
  obtain⟨i,a,b,rfl,HJ⟩:=hrel;by_cases C8:i<ln
  ·obtain⟨k,hk⟩:∃ k,t.ks[i]? = some k:=⟨_,List.getElem?_eq_getElem (by rw[A5.out]; exact C8)⟩
   obtain⟨vk,A9,C5⟩:=HK.out i k hk;obtain⟨bl,off,x,y,z,u,e,hl,A8,r0,r1,r2,r3⟩:=A9.keep (fun b ho hl=>⟨ho,HJ.out.below.block b hl⟩);subst e;obtain⟨pk,ck,rfl, -, -, -, -, -⟩:=C5.open;obtain⟨kop,A7⟩:∃ o,Hid (k.op=o):=⟨_,aa rfl⟩
   obtain⟨kn,C7⟩:∃ o,Hid (k.n=o):=⟨_,aa rfl⟩
   rw[A7.out,C7.out] at A8;obtain⟨rfl,rfl,rfl,rfl⟩:.int .i64 kop=x∧.int .i64 kn=y∧.string k.s=z∧.slice pk k.ks.length ck=u:=by simpa using A8
   clear A8 A9 C5;have g0:decide ((i:Int)<(ln:Int))=true:=by simp; omega
   have j1:(0:Int)≤(i:Int):=by omega
   have j2:(i:Int)<(ln:Int):=by omega
   have E6:IntKind.i64.wrap ((i:Int)+1)=(i:Int)+1:=IntWalk.i64_in _ (by have:=C3.out; omega);obtain⟨c0,c1,c2,c3⟩:=ae HJ.out.c;have D1:=aa hk;have HA:=aa (HJ.out.alloc (.cells #[.int .i64 kop,.int .i64 kn,.string k.s,.slice pk k.ks.length ck] 24));obtain⟨d0,d1,d2,d3⟩:=ae HA.out.c;obtain⟨e0,e1,e2,e3⟩:=ae HA.out.r;have f0:∀ o,(wr.alloc (.cells #[.int .i64 kop,.int .i64 kn,.string k.s,.slice pk k.ks.length ck] 24)).frozen? ⟨w.heap.size+1,o,none⟩=false:=fun o=>Rw.frozen_of HA.out.r;clear hk;by_cases h2:2≤i
   ·have g2:decide ((1:Int)<(i:Int))=true:=by simp; omega
    have hS:=bh HA.out.r (.int .i64 op) (.int .i64 n) (.string s) (.slice (some ⟨bl,off,none⟩) ln c);have HS:=aa hS;have HF:=aa (show Co.fold t=none by
     unfold Co.fold;rw[if_neg (fun h=>by have:=h.1; rw[A5.out] at this; omega)])
    clear hS;go_wp2_with fail
    obtain⟨A1,A2⟩:=HS.out;generalize World.setCell _ _ _=w9 at *;obtain⟨y0,y1,y2,y3⟩:=ae A1;refine bodyPost_ret (v:=.tuple #[.agg #[.int .i64 op,.int .i64 n,.string s,.slice (some ⟨bl,off,none⟩) ln c],.bool false]) (by simp[results,Tryz.results89,go_sem,y0,y1,y2,y3]) rfl ?_;have A6:=HA.out.below.trans (A2 w.heap.size (by omega));exact⟨A6,t,_,by rw[HF.out]; rfl,(HV.out.under A6).old,fun x h=>by rw[HF.out] at h; cases h⟩
   ·have g2:decide ((1:Int)<(i:Int))=false:=by simp; omega
    by_cases hC:kop=1∨kop=2∨kop=3
    ·have C9:Co.isC k=true:=by
      unfold Co.isC;rw[A7.out];rcases hC with h|h|h<;>rw[h]<;>rfl
     have D4:=aa C9;clear C9;obtain⟨zv,z0⟩:∃ zv,(wr.alloc (.cells #[.int .i64 kop,.int .i64 kn,.string k.s,.slice pk k.ks.length ck] 24)).cell? ⟨w.heap.size+1+1,i,none⟩=some zv:=by
      rcases(by omega:i=0∨i=1) with rfl|rfl
      ·exact⟨_,by simp[World.cell?,HA.out.n]; rfl⟩
      ·exact⟨_,by simp[World.cell?,HA.out.n]; rfl⟩
     have j3:(i:Int)<2:=by omega
     have f1:∀ o,(wr.alloc (.cells #[.int .i64 kop,.int .i64 kn,.string k.s,.slice pk k.ks.length ck] 24)).frozen? ⟨w.heap.size+1+1,o,none⟩=false:=fun o=>Rw.frozen_of HA.out.n;have D3:=aa (HA.out.set D1.out D4.out (by omega) C7.out);rcases hC with rfl|rfl|rfl;all_goals
      go_wp2_with fail
      go_roundw;case rel=>exact⟨_,_,_,by go_num,D3⟩
      case measure=>simp only[intOf]; omega
    ·simp only[not_or] at hC;have g3:(kop != 1)=true:=by simpa using hC.1
     have g4:(kop != 2)=true:=by simpa using hC.2.1
     have g5:(kop != 3)=true:=by simpa using hC.2.2
     have hS:=bh HA.out.r (.int .i64 op) (.int .i64 n) (.string s) (.slice (some ⟨bl,off,none⟩) ln c);have HS:=aa hS;have HF:=aa (show Co.fold t=none by
      unfold Co.fold;rw[if_neg (fun h=>by
       have h3:=List.all_eq_true.1 h.2 k (List.mem_of_getElem? D1.out);unfold Co.isC at h3;rw[A7.out] at h3;simp[hC.1,hC.2.1,hC.2.2] at h3)])
     clear hC hS;go_wp2_with fail
     obtain⟨A1,A2⟩:=HS.out;generalize World.setCell _ _ _=w9 at *;obtain⟨y0,y1,y2,y3⟩:=ae A1;refine bodyPost_ret (v:=.tuple #[.agg #[.int .i64 op,.int .i64 n,.string s,.slice (some ⟨bl,off,none⟩) ln c],.bool false]) (by simp[results,Tryz.results89,go_sem,y0,y1,y2,y3]) rfl ?_;have A6:=HA.out.below.trans (A2 w.heap.size (by omega));exact⟨A6,t,_,by rw[HF.out]; rfl,(HV.out.under A6).old,fun x h=>by rw[HF.out] at h; cases h⟩
  ·obtain rfl:i=ln:=by have:=HJ.out.le; rw[A5.out] at this; omega
   have g0:decide (i<i)=false:=by simp
   have B1:t.ks.all Co.isC=true:=by
    rw[List.all_eq_true];intro k hk;obtain⟨j,hj,rfl⟩:=List.mem_iff_getElem.1 hk;exact HJ.out.con j _ (by rw[←A5.out]; exact hj) (List.getElem?_eq_getElem hj)
   have ha:a=Co.kidN t 0:=by
    rw[HJ.out.first];split
    ·rfl
    ·rw[zjl (by rw[A5.out]; omega)]
   have hb:b=Co.kidN t 1:=by
    rw[HJ.out.second];split
    ·rfl
    ·rw[zjl (by rw[A5.out]; omega)]
   have HF:=aa (show Co.fold t=Co.foldOp op a b by
    unfold Co.fold;rw[if_pos ⟨by rw[A5.out]; exact HJ.out.two,B1⟩,C6.out,ha,hb])
   clear B1 ha hb C8;have HD:=aa (show FoldIt w t #[.int .i64 op,.int .i64 n,.string s,.slice p i c] i a b wr.drew from⟨HJ.out.le,HJ.out.two,HJ.out.con,HJ.out.first,HJ.out.second,HJ.out.below.drew,HJ.out.c,HJ.out.r,HJ.out.n⟩);obtain⟨c0,c1,c2,c3⟩:=ae HJ.out.c;obtain⟨d0,d1,d2,d3⟩:=ae HD.out.c;have z0:wr.drew.cell? ⟨w.heap.size+1+1,0,none⟩=some (.int .i64 a):=by simp[World.cell?,HD.out.n]
   have z1:wr.drew.cell? ⟨w.heap.size+1+1,1,none⟩=some (.int .i64 b):=by simp[World.cell?,HD.out.n]
   have fin:∀(m o:Int) (w9:World),Below w.heap.size w w9→Co.foldOp op a b=some (Co.leaf o m)→I64 o→I64 m→lg ok (Co.fold t) w (.returned (.tuple #[.agg #[.int .i64 o,.int .i64 m,.string ⟨#[]⟩,.slice none 0 0],.bool true])) w9:=by
    intro m o w9 hb hf h1 h2;exact⟨hb,Co.leaf o m,_,by rw[HF.out,hf]; rfl,rz h1 h2,fun x hx=>by rw[HF.out,hf] at hx; cases hx; rfl⟩
   have A4:=aa fin;clear fin;by_cases h6:op=6
   ·subst h6;have HO:=aa (show Co.foldOp 6 a b=some (Co.leaf 1 (Num.neg a)) from rfl);go_wp2_with fail
    go_region
    all_goals
     go_wp2_with fail
     refine((zfs a _).mono fun _ _=>rh).mono ?_;rintro e w4 ⟨rfl,b4⟩;go_wp2_with fail
     refine(uz _ _).mono ?_;rintro e w5 ⟨rfl,b5⟩;have A0:=((Below.more b4 b5).block (w.heap.size+1) (af HD.out.r)).trans HD.out.r;have A3:=aa (HD.out.below.trans ((Below.more b4 b5).mono HD.out.below.size));obtain⟨e0,e1,e2,e3⟩:=ae A0;have f0:∀ o,w5.frozen? ⟨w.heap.size+1,o,none⟩=false:=fun o=>Rw.frozen_of A0;have HS:=aa (bh A0 (.int .i64 1) (.int .i64 (Num.neg a)) (.string ⟨#[]⟩) (.slice none 0 0));clear b5 A0 b4;go_wp2_with fail
     obtain⟨A1,A2⟩:=HS.out;generalize World.setCell _ _ _=w9 at *;obtain⟨y0,y1,y2,y3⟩:=ae A1;refine bodyPost_ret (v:=.tuple #[.agg #[.int .i64 1,.int .i64 (Num.neg a),.string ⟨#[]⟩,.slice none 0 0],.bool true]) (by simp[results,Tryz.results89,go_sem,y0,y1,y2,y3]) rfl ?_;exact A4.out _ _ w9 (A3.out.trans (A2 w.heap.size (by omega))) HO.out (by unfold I64; omega) (by have:=Co.neg_in a; unfold I64; omega)
   by_cases h7:op=7
   ·subst h7;have HO:=aa (show Co.foldOp 7 a b=some (Co.leaf 1 (Num.add a b)) from rfl);go_wp2_with fail
    go_region
    all_goals
     go_wp2_with fail
     refine((zmu a b _).mono fun _ _=>rh).mono ?_;rintro e w4 ⟨rfl,b4⟩;go_wp2_with fail
     refine(uz _ _).mono ?_;rintro e w5 ⟨rfl,b5⟩;have A0:=((Below.more b4 b5).block (w.heap.size+1) (af HD.out.r)).trans HD.out.r;have A3:=aa (HD.out.below.trans ((Below.more b4 b5).mono HD.out.below.size));obtain⟨e0,e1,e2,e3⟩:=ae A0;have f0:∀ o,w5.frozen? ⟨w.heap.size+1,o,none⟩=false:=fun o=>Rw.frozen_of A0;have HS:=aa (bh A0 (.int .i64 1) (.int .i64 (Num.add a b)) (.string ⟨#[]⟩) (.slice none 0 0));clear b5 A0 b4;go_wp2_with fail
     obtain⟨A1,A2⟩:=HS.out;generalize World.setCell _ _ _=w9 at *;obtain⟨y0,y1,y2,y3⟩:=ae A1;refine bodyPost_ret (v:=.tuple #[.agg #[.int .i64 1,.int .i64 (Num.add a b),.string ⟨#[]⟩,.slice none 0 0],.bool true]) (by simp[results,Tryz.results89,go_sem,y0,y1,y2,y3]) rfl ?_;exact A4.out _ _ w9 (A3.out.trans (A2 w.heap.size (by omega))) HO.out (by unfold I64; omega) (by have:=Co.add_in a b; unfold I64; omega)
   by_cases h8:op=8
   ·subst h8;have HO:=aa (show Co.foldOp 8 a b=some (Co.leaf 1 (Num.sub a b)) from rfl);go_wp2_with fail
    go_region
    all_goals
     go_wp2_with fail
     refine((zlv a b _).mono fun _ _=>rh).mono ?_;rintro e w4 ⟨rfl,b4⟩;go_wp2_with fail
     refine(uz _ _).mono ?_;rintro e w5 ⟨rfl,b5⟩;have A0:=((Below.more b4 b5).block (w.heap.size+1) (af HD.out.r)).trans HD.out.r;have A3:=aa (HD.out.below.trans ((Below.more b4 b5).mono HD.out.below.size));obtain⟨e0,e1,e2,e3⟩:=ae A0;have f0:∀ o,w5.frozen? ⟨w.heap.size+1,o,none⟩=false:=fun o=>Rw.frozen_of A0;have HS:=aa (bh A0 (.int .i64 1) (.int .i64 (Num.sub a b)) (.string ⟨#[]⟩) (.slice none 0 0));clear b5 A0 b4;go_wp2_with fail
     obtain⟨A1,A2⟩:=HS.out;generalize World.setCell _ _ _=w9 at *;obtain⟨y0,y1,y2,y3⟩:=ae A1;refine bodyPost_ret (v:=.tuple #[.agg #[.int .i64 1,.int .i64 (Num.sub a b),.string ⟨#[]⟩,.slice none 0 0],.bool true]) (by simp[results,Tryz.results89,go_sem,y0,y1,y2,y3]) rfl ?_;exact A4.out _ _ w9 (A3.out.trans (A2 w.heap.size (by omega))) HO.out (by unfold I64; omega) (by have:=Co.sub_in a b; unfold I64; omega)
   by_cases h9:op=9
   ·subst h9;have HO:=aa (show Co.foldOp 9 a b=some (Co.leaf 1 (Num.mul a b)) from rfl);go_wp2_with fail
    go_region
    all_goals
     go_wp2_with fail
     refine((zft a b _).mono fun _ _=>zhc).mono ?_;rintro e w4 ⟨rfl,b4⟩;go_wp2_with fail
     refine(uz _ _).mono ?_;rintro e w5 ⟨rfl,b5⟩;have A0:=((Below.more b4 b5).block (w.heap.size+1) (af HD.out.r)).trans HD.out.r;have A3:=aa (HD.out.below.trans ((Below.more b4 b5).mono HD.out.below.size));obtain⟨e0,e1,e2,e3⟩:=ae A0;have f0:∀ o,w5.frozen? ⟨w.heap.size+1,o,none⟩=false:=fun o=>Rw.frozen_of A0;have HS:=aa (bh A0 (.int .i64 1) (.int .i64 (Num.mul a b)) (.string ⟨#[]⟩) (.slice none 0 0));clear b5 A0 b4;go_wp2_with fail
     obtain⟨A1,A2⟩:=HS.out;generalize World.setCell _ _ _=w9 at *;obtain⟨y0,y1,y2,y3⟩:=ae A1;refine bodyPost_ret (v:=.tuple #[.agg #[.int .i64 1,.int .i64 (Num.mul a b),.string ⟨#[]⟩,.slice none 0 0],.bool true]) (by simp[results,Tryz.results89,go_sem,y0,y1,y2,y3]) rfl ?_;exact A4.out _ _ w9 (A3.out.trans (A2 w.heap.size (by omega))) HO.out (by unfold I64; omega) (by have:=Co.mul_in a b; unfold I64; omega)
   by_cases C1:op=10
   ·subst C1;have HO:=aa (show Co.foldOp 10 a b=some (Co.leaf 1 (Num.div a b)) from rfl);go_wp2_with fail
    go_region
    all_goals
     go_wp2_with fail
     refine((zfz a b _).mono fun _ _=>zhc).mono ?_;rintro e w4 ⟨rfl,b4⟩;go_wp2_with fail
     refine(uz _ _).mono ?_;rintro e w5 ⟨rfl,b5⟩;have A0:=((Below.more b4 b5).block (w.heap.size+1) (af HD.out.r)).trans HD.out.r;have A3:=aa (HD.out.below.trans ((Below.more b4 b5).mono HD.out.below.size));obtain⟨e0,e1,e2,e3⟩:=ae A0;have f0:∀ o,w5.frozen? ⟨w.heap.size+1,o,none⟩=false:=fun o=>Rw.frozen_of A0;have HS:=aa (bh A0 (.int .i64 1) (.int .i64 (Num.div a b)) (.string ⟨#[]⟩) (.slice none 0 0));clear b5 A0 b4;go_wp2_with fail
     obtain⟨A1,A2⟩:=HS.out;generalize World.setCell _ _ _=w9 at *;obtain⟨y0,y1,y2,y3⟩:=ae A1;refine bodyPost_ret (v:=.tuple #[.agg #[.int .i64 1,.int .i64 (Num.div a b),.string ⟨#[]⟩,.slice none 0 0],.bool true]) (by simp[results,Tryz.results89,go_sem,y0,y1,y2,y3]) rfl ?_;exact A4.out _ _ w9 (A3.out.trans (A2 w.heap.size (by omega))) HO.out (by unfold I64; omega) (by have:=Co.div_in a b; unfold I64; omega)
   by_cases B3:op=20
   ·subst B3;have HO:=aa (show Co.foldOp 20 a b=some (Co.leaf 1 (Dt.years a b)) from rfl);go_wp2_with fail
    go_region
    all_goals
     go_wp2_with fail
     refine((zgf a b _).mono fun _ _=>id).mono ?_;rintro e w4 ⟨rfl,b4⟩;go_wp2_with fail
     refine(uz _ _).mono ?_;rintro e w5 ⟨rfl,b5⟩;have A0:=((Below.more b4 b5).block (w.heap.size+1) (af HD.out.r)).trans HD.out.r;have A3:=aa (HD.out.below.trans ((Below.more b4 b5).mono HD.out.below.size));obtain⟨e0,e1,e2,e3⟩:=ae A0;have f0:∀ o,w5.frozen? ⟨w.heap.size+1,o,none⟩=false:=fun o=>Rw.frozen_of A0;have HS:=aa (bh A0 (.int .i64 1) (.int .i64 (Dt.years a b)) (.string ⟨#[]⟩) (.slice none 0 0));clear b5 A0 b4;go_wp2_with fail
     obtain⟨A1,A2⟩:=HS.out;generalize World.setCell _ _ _=w9 at *;obtain⟨y0,y1,y2,y3⟩:=ae A1;refine bodyPost_ret (v:=.tuple #[.agg #[.int .i64 1,.int .i64 (Dt.years a b),.string ⟨#[]⟩,.slice none 0 0],.bool true]) (by simp[results,Tryz.results89,go_sem,y0,y1,y2,y3]) rfl ?_;exact A4.out _ _ w9 (A3.out.trans (A2 w.heap.size (by omega))) HO.out (by unfold I64; omega) (by have:=Co.years_in a b; unfold I64; omega)
   by_cases B2:op=21
   ·subst B2;have HO:=aa (show Co.foldOp 21 a b=some (Co.leaf 1 (Dt.years30 a b)) from rfl);go_wp2_with fail
    go_region
    all_goals
     go_wp2_with fail
     refine((zcu a b _).mono fun _ _=>id).mono ?_;rintro e w4 ⟨rfl,b4⟩;go_wp2_with fail
     refine(uz _ _).mono ?_;rintro e w5 ⟨rfl,b5⟩;have A0:=((Below.more b4 b5).block (w.heap.size+1) (af HD.out.r)).trans HD.out.r;have A3:=aa (HD.out.below.trans ((Below.more b4 b5).mono HD.out.below.size));obtain⟨e0,e1,e2,e3⟩:=ae A0;have f0:∀ o,w5.frozen? ⟨w.heap.size+1,o,none⟩=false:=fun o=>Rw.frozen_of A0;have HS:=aa (bh A0 (.int .i64 1) (.int .i64 (Dt.years30 a b)) (.string ⟨#[]⟩) (.slice none 0 0));clear b5 A0 b4;go_wp2_with fail
     obtain⟨A1,A2⟩:=HS.out;generalize World.setCell _ _ _=w9 at *;obtain⟨y0,y1,y2,y3⟩:=ae A1;refine bodyPost_ret (v:=.tuple #[.agg #[.int .i64 1,.int .i64 (Dt.years30 a b),.string ⟨#[]⟩,.slice none 0 0],.bool true]) (by simp[results,Tryz.results89,go_sem,y0,y1,y2,y3]) rfl ?_;exact A4.out _ _ w9 (A3.out.trans (A2 w.heap.size (by omega))) HO.out (by unfold I64; omega) (by have:=Co.years30_in a b; unfold I64; omega)
   by_cases B7:op=14
   ·subst B7;have HO:=aa (show Co.foldOp 14 a b=some (Co.leaf 2 (Co.tr (decide (a=0)))) from rfl);go_wp2_with fail
    go_region
    all_goals
     go_wp2_with fail
     refine(zbv _ _).mono ?_;rintro e w5 ⟨rfl,b5⟩;have A0:=(b5.block (w.heap.size+1) (af HD.out.r)).trans HD.out.r;have A3:=aa (HD.out.below.trans (b5.mono HD.out.below.size));obtain⟨e0,e1,e2,e3⟩:=ae A0;have f0:∀ o,w5.frozen? ⟨w.heap.size+1,o,none⟩=false:=fun o=>Rw.frozen_of A0;have HS:=aa (bh A0 (.int .i64 2) (.int .i64 (Co.tr (a == 0))) (.string ⟨#[]⟩) (.slice none 0 0));clear b5 A0;go_wp2_with fail
     obtain⟨A1,A2⟩:=HS.out;generalize World.setCell _ _ _=w9 at *;obtain⟨y0,y1,y2,y3⟩:=ae A1;refine bodyPost_ret (v:=.tuple #[.agg #[.int .i64 2,.int .i64 (Co.tr (a == 0)),.string ⟨#[]⟩,.slice none 0 0],.bool true]) (by simp[results,Tryz.results89,go_sem,y0,y1,y2,y3]) rfl ?_;exact A4.out _ _ w9 (A3.out.trans (A2 w.heap.size (by omega))) HO.out (by unfold I64; omega) (by have:=Co.tr_in (a == 0); unfold I64; omega)
   by_cases C0:op=11
   ·subst C0;have HO:=aa (show Co.foldOp 11 a b=some (Co.leaf 2 (Co.tr (decide (a<b)))) from rfl);go_wp2_with fail
    go_region
    all_goals
     go_wp2_with fail
     refine(zbv _ _).mono ?_;rintro e w5 ⟨rfl,b5⟩;have A0:=(b5.block (w.heap.size+1) (af HD.out.r)).trans HD.out.r;have A3:=aa (HD.out.below.trans (b5.mono HD.out.below.size));obtain⟨e0,e1,e2,e3⟩:=ae A0;have f0:∀ o,w5.frozen? ⟨w.heap.size+1,o,none⟩=false:=fun o=>Rw.frozen_of A0;have HS:=aa (bh A0 (.int .i64 2) (.int .i64 (Co.tr (decide (a<b)))) (.string ⟨#[]⟩) (.slice none 0 0));clear b5 A0;go_wp2_with fail
     obtain⟨A1,A2⟩:=HS.out;generalize World.setCell _ _ _=w9 at *;obtain⟨y0,y1,y2,y3⟩:=ae A1;refine bodyPost_ret (v:=.tuple #[.agg #[.int .i64 2,.int .i64 (Co.tr (decide (a<b))),.string ⟨#[]⟩,.slice none 0 0],.bool true]) (by simp[results,Tryz.results89,go_sem,y0,y1,y2,y3]) rfl ?_;exact A4.out _ _ w9 (A3.out.trans (A2 w.heap.size (by omega))) HO.out (by unfold I64; omega) (by have:=Co.tr_in (decide (a<b)); unfold I64; omega)
   by_cases B6:op=17
   ·subst B6;have HO:=aa (show Co.foldOp 17 a b=some (Co.leaf 2 (Co.tr (decide (a<b)))) from rfl);go_wp2_with fail
    go_region
    all_goals
     go_wp2_with fail
     refine(zbv _ _).mono ?_;rintro e w5 ⟨rfl,b5⟩;have A0:=(b5.block (w.heap.size+1) (af HD.out.r)).trans HD.out.r;have A3:=aa (HD.out.below.trans (b5.mono HD.out.below.size));obtain⟨e0,e1,e2,e3⟩:=ae A0;have f0:∀ o,w5.frozen? ⟨w.heap.size+1,o,none⟩=false:=fun o=>Rw.frozen_of A0;have HS:=aa (bh A0 (.int .i64 2) (.int .i64 (Co.tr (decide (a<b)))) (.string ⟨#[]⟩) (.slice none 0 0));clear b5 A0;go_wp2_with fail
     obtain⟨A1,A2⟩:=HS.out;generalize World.setCell _ _ _=w9 at *;obtain⟨y0,y1,y2,y3⟩:=ae A1;refine bodyPost_ret (v:=.tuple #[.agg #[.int .i64 2,.int .i64 (Co.tr (decide (a<b))),.string ⟨#[]⟩,.slice none 0 0],.bool true]) (by simp[results,Tryz.results89,go_sem,y0,y1,y2,y3]) rfl ?_;exact A4.out _ _ w9 (A3.out.trans (A2 w.heap.size (by omega))) HO.out (by unfold I64; omega) (by have:=Co.tr_in (decide (a<b)); unfold I64; omega)
   by_cases B9:op=12
   ·subst B9;have HO:=aa (show Co.foldOp 12 a b=some (Co.leaf 2 (Co.tr (decide (a≤b)))) from rfl);go_wp2_with fail
    go_region
    all_goals
     go_wp2_with fail
     refine(zbv _ _).mono ?_;rintro e w5 ⟨rfl,b5⟩;have A0:=(b5.block (w.heap.size+1) (af HD.out.r)).trans HD.out.r;have A3:=aa (HD.out.below.trans (b5.mono HD.out.below.size));obtain⟨e0,e1,e2,e3⟩:=ae A0;have f0:∀ o,w5.frozen? ⟨w.heap.size+1,o,none⟩=false:=fun o=>Rw.frozen_of A0;have HS:=aa (bh A0 (.int .i64 2) (.int .i64 (Co.tr (decide (a≤b)))) (.string ⟨#[]⟩) (.slice none 0 0));clear b5 A0;go_wp2_with fail
     obtain⟨A1,A2⟩:=HS.out;generalize World.setCell _ _ _=w9 at *;obtain⟨y0,y1,y2,y3⟩:=ae A1;refine bodyPost_ret (v:=.tuple #[.agg #[.int .i64 2,.int .i64 (Co.tr (decide (a≤b))),.string ⟨#[]⟩,.slice none 0 0],.bool true]) (by simp[results,Tryz.results89,go_sem,y0,y1,y2,y3]) rfl ?_;exact A4.out _ _ w9 (A3.out.trans (A2 w.heap.size (by omega))) HO.out (by unfold I64; omega) (by have:=Co.tr_in (decide (a≤b)); unfold I64; omega)
   by_cases B8:op=13
   ·subst B8;have HO:=aa (show Co.foldOp 13 a b=some (Co.leaf 2 (Co.tr (decide (a=b)))) from rfl);go_wp2_with fail
    go_region
    all_goals
     go_wp2_with fail
     refine(zbv _ _).mono ?_;rintro e w5 ⟨rfl,b5⟩;have A0:=(b5.block (w.heap.size+1) (af HD.out.r)).trans HD.out.r;have A3:=aa (HD.out.below.trans (b5.mono HD.out.below.size));obtain⟨e0,e1,e2,e3⟩:=ae A0;have f0:∀ o,w5.frozen? ⟨w.heap.size+1,o,none⟩=false:=fun o=>Rw.frozen_of A0;have HS:=aa (bh A0 (.int .i64 2) (.int .i64 (Co.tr (a == b))) (.string ⟨#[]⟩) (.slice none 0 0));clear b5 A0;go_wp2_with fail
     obtain⟨A1,A2⟩:=HS.out;generalize World.setCell _ _ _=w9 at *;obtain⟨y0,y1,y2,y3⟩:=ae A1;refine bodyPost_ret (v:=.tuple #[.agg #[.int .i64 2,.int .i64 (Co.tr (a == b)),.string ⟨#[]⟩,.slice none 0 0],.bool true]) (by simp[results,Tryz.results89,go_sem,y0,y1,y2,y3]) rfl ?_;exact A4.out _ _ w9 (A3.out.trans (A2 w.heap.size (by omega))) HO.out (by unfold I64; omega) (by have:=Co.tr_in (a == b); unfold I64; omega)
   by_cases B5:op=18
   ·subst B5;have HO:=aa (show Co.foldOp 18 a b=some (Co.leaf 3 (Dt.plus a (Num.whole b))) from rfl);go_wp2_with fail
    go_region
    all_goals
     go_wp2_with fail
     refine((vt b _).mono fun _ _=>rh).mono ?_;rintro e w3 ⟨rfl,b3⟩;go_wp2_with fail
     refine((zbw a (Num.whole b) _).mono fun _ _=>rh).mono ?_;rintro e w4 ⟨rfl,b4⟩;go_wp2_with fail
     refine(zqz _ _).mono ?_;rintro e w5 ⟨rfl,b5⟩;have A0:=((Below.more b3 (Below.more b4 b5)).block (w.heap.size+1) (af HD.out.r)).trans HD.out.r;have A3:=aa (HD.out.below.trans ((Below.more b3 (Below.more b4 b5)).mono HD.out.below.size));obtain⟨e0,e1,e2,e3⟩:=ae A0;have f0:∀ o,w5.frozen? ⟨w.heap.size+1,o,none⟩=false:=fun o=>Rw.frozen_of A0;have HS:=aa (bh A0 (.int .i64 3) (.int .i64 (Dt.plus a (Num.whole b))) (.string ⟨#[]⟩) (.slice none 0 0));clear b5 A0 b4 b3;go_wp2_with fail
     obtain⟨A1,A2⟩:=HS.out;generalize World.setCell _ _ _=w9 at *;obtain⟨y0,y1,y2,y3⟩:=ae A1;refine bodyPost_ret (v:=.tuple #[.agg #[.int .i64 3,.int .i64 (Dt.plus a (Num.whole b)),.string ⟨#[]⟩,.slice none 0 0],.bool true]) (by simp[results,Tryz.results89,go_sem,y0,y1,y2,y3]) rfl ?_;exact A4.out _ _ w9 (A3.out.trans (A2 w.heap.size (by omega))) HO.out (by unfold I64; omega) (by have:=Co.plus_in a (Num.whole b); unfold I64; omega)
   by_cases B4:op=19
   ·subst B4;have HO:=aa (show Co.foldOp 19 a b=some (Co.leaf 3 (Dt.months a (Num.whole b))) from rfl);go_wp2_with fail
    go_region
    all_goals
     go_wp2_with fail
     refine((vt b _).mono fun _ _=>rh).mono ?_;rintro e w3 ⟨rfl,b3⟩;go_wp2_with fail
     refine((zeq a (Num.whole b) _).mono fun _ _=>id).mono ?_;rintro e w4 ⟨rfl,b4⟩;go_wp2_with fail
     refine(zqz _ _).mono ?_;rintro e w5 ⟨rfl,b5⟩;have A0:=((Below.more b3 (Below.more b4 b5)).block (w.heap.size+1) (af HD.out.r)).trans HD.out.r;have A3:=aa (HD.out.below.trans ((Below.more b3 (Below.more b4 b5)).mono HD.out.below.size));obtain⟨e0,e1,e2,e3⟩:=ae A0;have f0:∀ o,w5.frozen? ⟨w.heap.size+1,o,none⟩=false:=fun o=>Rw.frozen_of A0;have HS:=aa (bh A0 (.int .i64 3) (.int .i64 (Dt.months a (Num.whole b))) (.string ⟨#[]⟩) (.slice none 0 0));clear b5 A0 b4 b3;go_wp2_with fail
     obtain⟨A1,A2⟩:=HS.out;generalize World.setCell _ _ _=w9 at *;obtain⟨y0,y1,y2,y3⟩:=ae A1;refine bodyPost_ret (v:=.tuple #[.agg #[.int .i64 3,.int .i64 (Dt.months a (Num.whole b)),.string ⟨#[]⟩,.slice none 0 0],.bool true]) (by simp[results,Tryz.results89,go_sem,y0,y1,y2,y3]) rfl ?_;exact A4.out _ _ w9 (A3.out.trans (A2 w.heap.size (by omega))) HO.out (by unfold I64; omega) (by have:=Co.months_in a (Num.whole b); unfold I64; omega)
   have HO:=aa (show Co.foldOp op a b=none by unfold Co.foldOp; simp[h6,h7,h8,h9,C1,B3,B2,B7,C0,B6,B9,B8,B5,B4]);have D0:=aa (show Co.fold t=none from HF.out.trans HO.out);have A0:wr.drew.heap[w.heap.size+1]? = _:=HD.out.r;obtain⟨e0,e1,e2,e3⟩:=ae A0;have f0:∀ o,wr.drew.frozen? ⟨w.heap.size+1,o,none⟩=false:=fun o=>Rw.frozen_of A0;have HS:=aa (bh A0 (.int .i64 op) (.int .i64 n) (.string s) (.slice p i c));clear A0;have q6:(op == 6)=false:=by simpa using h6
   have q7:(op == 7)=false:=by simpa using h7
   have q8:(op == 8)=false:=by simpa using h8
   have q9:(op == 9)=false:=by simpa using h9
   have E5:(op == 10)=false:=by simpa using C1
   have D7:(op == 20)=false:=by simpa using B3
   have D6:(op == 21)=false:=by simpa using B2
   have E1:(op == 14)=false:=by simpa using B7
   have E4:(op == 11)=false:=by simpa using C0
   have E0:(op == 17)=false:=by simpa using B6
   have E3:(op == 12)=false:=by simpa using B9
   have E2:(op == 13)=false:=by simpa using B8
   have D9:(op == 18)=false:=by simpa using B5
   have D8:(op == 19)=false:=by simpa using B4
   clear h6 h7 h8 h9 C1 B3 B2 B7 C0 B6 B9 B8 B5 B4;go_wp2_with fail
   go_region
   all_goals
    generalize World.drew wr=wd at *;go_wp2_with fail
    --trace_state
    obtain⟨A1,A2⟩:=HS.out;generalize World.setCell _ _ _=w9 at *;obtain⟨y0,y1,y2,y3⟩:=ae A1;refine bodyPost_ret (v:=.tuple #[.agg #[.int .i64 op,.int .i64 n,.string s,.slice p i c],.bool false]) (by simp[results,Tryz.results89,go_sem,y0,y1,y2,y3]) rfl ?_;have A6:=HD.out.below.trans (A2 w.heap.size (by omega));exact⟨A6,t,_,by rw[D0.out]; rfl,(HV.out.under A6).old,fun x h=>by rw[D0.out] at h; cases h⟩
end
section
open Go.RowKit
set_option maxRecDepth 100000
structure KidAt (ok:Nat→Prop)(W:World)(bl o:Nat)(k:Co.T)(op n:Int)(s:ByteArray)(p:Option Addr)(len c:Nat):Prop where
 lt:bl<W.heap.size
 op':k.op=op
 n':k.n=n
 s':k.s=s
 len':k.ks.length=len
 x0:W.cell? ⟨bl,o,none⟩=some (.int .i64 op)
 x1:W.cell? ⟨bl,o+1,none⟩=some (.int .i64 n)
 x2:W.cell? ⟨bl,o+2,none⟩=some (.string s)
 x3:W.cell? ⟨bl,o+3,none⟩=some (.slice p len c)
 val:CoreIn ok W k (.agg #[.int .i64 op,.int .i64 n,.string s,.slice p len c])
theorem KidAt.below {ok:Nat→Prop}{W W':World}{bl o:Nat}{k:Co.T}{op n:Int}{s:ByteArray}{p:Option Addr}{len c:Nat}(h:KidAt ok W bl o k op n s p len c)(hb:Below W.heap.size W W'):KidAt ok W' bl o k op n s p len c:=
 ⟨Nat.lt_of_lt_of_le h.lt hb.size,h.op',h.n',h.s',h.len',(hb.cell (p:=⟨bl,_,none⟩) h.lt).trans h.x0,(hb.cell (p:=⟨bl,_,none⟩) h.lt).trans h.x1,(hb.cell (p:=⟨bl,_,none⟩) h.lt).trans h.x2,(hb.cell (p:=⟨bl,_,none⟩) h.lt).trans h.x3,h.val.under hb⟩
theorem nc {ok:Nat→Prop}{W:World}{t:Co.T}{op n:Int}{s:ByteArray}{p:Option Addr}{len c:Nat}(h:CoreIn ok W t (.agg #[.int .i64 op,.int .i64 n,.string s,.slice p len c]))(h0:0<t.ks.length):
  ∃ bl off,p=some ⟨bl,off,none⟩∧∀ i k,t.ks[i]? = some k→∃ op n s p len c,KidAt ok W bl (off+i * 4) k op n s p len c:=by
 obtain⟨p',c',e,hc,ho,hn,hs,hk⟩:=h.open;have e':p=p':=by simp at e; exact e.2.2.2.1
 subst e';obtain⟨k0,A3⟩:∃ k,t.ks[0]? = some k:=⟨_,List.getElem?_eq_getElem h0⟩
 obtain⟨v0,⟨bl,off, -, -, -, -,e0,hl, -⟩, -⟩:=hk 0 k0 A3;subst e0;refine⟨bl,off,rfl,fun i k hi=>?_⟩;obtain⟨vk,A0,A1⟩:=hk i k hi;obtain⟨b,o,x,y,z,u,e1,A4,A2,r0,r1,r2,r3⟩:=A0;simp only[Option.some.injEq,Addr.mk.injEq,and_true] at e1;obtain⟨rfl,rfl⟩:=e1;obtain⟨pk,ck,rfl, -⟩:=A1.open;obtain⟨rfl,rfl,rfl,rfl⟩:.int .i64 k.op=x∧.int .i64 k.n=y∧.string k.s=z∧.slice pk k.ks.length ck=u:=by simpa using A2
 exact⟨_,_,_,_,_,_,⟨World.block_lt_of_cell? W _ r0,rfl,rfl,rfl,rfl,r0,r1,r2,r3,A1⟩⟩
theorem dw {ok:Nat→Prop}{W:World}{t:Co.T}{v:Value}(h:CoreIn ok W t v):∃ op n s p len c,v=.agg #[.int .i64 op,.int .i64 n,.string s,.slice p len c]∧(t.op=op∧t.n=n∧t.s=s∧t.ks.length=len):=by
 obtain⟨p,c,e, -⟩:=h.open;exact⟨_,_,_,p,_,c,e,rfl,rfl,rfl,rfl⟩
theorem jv (W:World)(b:Nat)(x y z u:Value):W.grownBy ((((W.setCell ⟨b,0,none⟩ x).setCell ⟨b,1,none⟩ y).setCell ⟨b,2,none⟩ z).setCell ⟨b,3,none⟩ u) (some b):=
 Rw.grown_trans (Rw.grown_trans (Rw.grown_trans (Rw.grown_set W b 0 x) (Rw.grown_set _ b 1 y)) (Rw.grown_set _ b 2 z)) (Rw.grown_set _ b 3 u)
theorem ll {W W':World}(hh:W'.heap=W.heap){a:Addr}{v:Value}(h:W.cell? a=some v):W'.cell? a=some v:=by
 unfold World.cell? at *;rw[hh];exact h
theorem Co.twice_kids {t:Co.T}(h:t.op=6∨t.op=14∨t.op=25)(hx:t.letter≠0):∃ k,t.ks=[k]∧k.letter≠0:=by
 rcases h with e|e|e
 ·obtain⟨h1, -, -⟩:=Co.open_kids (t:=t) (by rw[e]; decide) (by rw[e]; exact Co.want_6) hx;obtain⟨k,A1,A0, -⟩:=Co.one_kid h1;exact⟨k,A1,by rw[A0]; decide⟩
 ·obtain⟨h1, -, -⟩:=Co.open_kids (t:=t) (by rw[e]; decide) (by rw[e]; exact Co.want_14) hx;obtain⟨k,A1,A0, -⟩:=Co.one_kid h1;exact⟨k,A1,by rw[A0]; decide⟩
 ·obtain⟨h1, -, -⟩:=Co.open_kids (t:=t) (by rw[e]; decide) (by rw[e]; exact Co.want_25) hx;obtain⟨k,A1,A0, -⟩:=Co.one_kid h1;exact⟨k,A1,by rw[A0]; decide⟩
set_option maxHeartbeats 4000000 in
theorem zix (ok:Nat→Prop)(t:Co.T)(v:Value)(w:World)(hv:CoreIn ok w t v)(hx:t.letter≠0)(h0:0<t.ks.length):
  Calls Tryz.prog 90 #[v] w (lg ok (Co.twice t) w):=by
 obtain⟨op,n,s,p,ln,c,rfl,D0,hn,hs,D1⟩:=dw hv;have HV:=aa hv;obtain⟨bl,off,rfl,B1⟩:=nc hv h0;have D3:=heap_alloc_new w (.cells #[.int .i64 op,.int .i64 n,.string s,.slice (some ⟨bl,off,none⟩) ln c] 24);have C6:=heap_alloc_new (w.alloc (.cells #[.int .i64 op,.int .i64 n,.string s,.slice (some ⟨bl,off,none⟩) ln c] 24)) (.cells #[.int .i64 0,.int .i64 0,.string ⟨#[]⟩,.slice none 0 0] 24);simp only[World.size_alloc] at C6;have C9:Below w.heap.size w ((w.alloc (.cells #[.int .i64 op,.int .i64 n,.string s,.slice (some ⟨bl,off,none⟩) ln c] 24)).alloc (.cells #[.int .i64 0,.int .i64 0,.string ⟨#[]⟩,.slice none 0 0] 24)):=((Below.refl w.heap.size w).alloc (Nat.le_refl _) _).alloc (by simp) _;have D2:=(((Below.refl _ (w.alloc (.cells #[.int .i64 op,.int .i64 n,.string s,.slice (some ⟨bl,off,none⟩) ln c] 24))).alloc (Nat.le_refl _) (.cells #[.int .i64 0,.int .i64 0,.string ⟨#[]⟩,.slice none 0 0] 24)).block w.heap.size (by simp)).trans D3;have j0:(0:Int)<(ln:Int):=by omega
 have B7:=aa D0;have HN:=aa hn;have E0:=aa D1;have B5:=aa B1;have HX:=aa hx;have H0:=aa h0;clear D3 D0 hn hs D1 B1 hx h0 hv;go_enter Tryz.func90,Tryz.ntmps90;go_wp2_with fail
 generalize World.alloc _ _=w1 at *;have B3:=aa C9;have B6:=aa C6;have B2:=aa D2;obtain⟨k,kat⟩:∃ k,t.ks[0]? = some k:=⟨_,List.getElem?_eq_getElem H0.out⟩
 obtain⟨kop,kn,ks,kp,klen,kc,kH⟩:=B5.out 0 k kat;have kK:=aa (kH.below C9);have kV:=aa kH.val;clear kH;clear C6 C9;obtain⟨d0,d1,d2,d3⟩:=ae B2.out;have D4:=aa kat;clear D2 kat;have C1:=kK.out.x0;have C0:=kK.out.x1;have B9:=kK.out.x2;have B8:=kK.out.x3;simp only[Nat.zero_mul,Nat.add_zero,Nat.one_mul] at C1 C0 B9 B8;by_cases h:op=6∨op=14∨op=25
 ·obtain⟨k',C8,C7⟩:∃ k',t.ks=[k']∧k'.letter≠0:=Co.twice_kids (by rw[B7.out]; exact h) HX.out;have ek:k=k':=by have:=D4.out; rw[C8] at this; simpa using this.symm
  subst ek;have eK:t.kid 0=k:=by unfold Co.T.kid; rw[D4.out]; rfl
  by_cases hk:kop=op
  ·subst hk;obtain⟨j,B4,D6⟩:∃ j,k.ks=[j]∧j.letter≠0:=Co.twice_kids (by rw[kK.out.op']; exact h) C7;have eJ:k.kid 0=j:=by unfold Co.T.kid; rw[B4]; rfl
   have HF:=aa (show Co.twice t=some j by unfold Co.twice; rw[eK,eJ,B7.out,kK.out.op']; exact if_pos ⟨h,rfl⟩);obtain⟨D9,D5,ekp,A6⟩:=nc kV.out (by rw[B4]; simp);obtain⟨jop,jn,js,jp,jlen,jc,jH⟩:=A6 0 j (by rw[B4]; rfl);subst ekp;have jV:=aa jH.val;have JK:=aa (jH.below B3.out);have j1:(0:Int)<(klen:Int):=by have:=kK.out.len'; rw[B4] at this; simp at this; omega
   have C5:=JK.out.x0;have C4:=JK.out.x1;have C3:=JK.out.x2;have C2:=JK.out.x3;simp only[Nat.zero_mul,Nat.add_zero] at C5 C4 C3 C2;clear C8 C7 eK B4 D6 eJ A6 jH;rcases h with rfl|rfl|rfl;all_goals
    go_quiet (fail)
    obtain⟨w2,A0⟩:∃ w2,w2=w1.drewN nq:=⟨_,rfl⟩
    rw[←A0];have hh:w2.heap=w1.heap:=by rw[A0,qt]
    have A5:Below w.heap.size w w2:=by rw[A0]; exact Below.drewn B3.out nq
    have A1:=B6.out;have A2:=B2.out;rw[←hh] at A1 A2;have B0:=aa A5;have A3:=aa A1;have A9:=aa A2;clear A5 A1 A2 d0 d1 d2 d3;obtain⟨d0,d1,d2,d3⟩:=ae A9.out;replace C1:=ll hh C1;replace C0:=ll hh C0;replace B9:=ll hh B9;replace B8:=ll hh B8;replace C5:=ll hh C5;replace C4:=ll hh C4;replace C3:=ll hh C3;replace C2:=ll hh C2;have HS:=aa (bh A3.out (.int .i64 jop) (.int .i64 jn) (.string js) (.slice jp jlen jc));obtain⟨r0,r1,r2,r3⟩:=ae A3.out;have f0:∀ o,w2.frozen? ⟨w.heap.size+1,o,none⟩=false:=fun o=>Rw.frozen_of A3.out;clear A0 hh;go_wp2_with fail
    obtain⟨A7,A8⟩:=HS.out;generalize World.setCell _ _ _=w9 at *;obtain⟨y0,y1,y2,y3⟩:=ae A7;refine bodyPost_ret (v:=.tuple #[.agg #[.int .i64 jop,.int .i64 jn,.string js,.slice jp jlen jc],.bool true]) (by simp[results,Tryz.results90,go_sem,y0,y1,y2,y3]) rfl ?_;have A4:=B0.out.trans (A8 w.heap.size (by omega));exact⟨A4,j,_,by rw[HF.out]; rfl,(jV.out.under A4).old,fun x h=>by rw[HF.out] at h; cases h; rfl⟩
  ·have HF:=aa (show Co.twice t=none by unfold Co.twice; rw[eK,B7.out,kK.out.op']; exact if_neg (fun h=>hk h.2));clear C8 C7 eK;rcases h with rfl|rfl|rfl
   ·have gk:=beq_false_of_ne hk;clear hk;go_quiet (fail)
    obtain⟨w2,A0⟩:∃ w2,w2=w1.drewN nq:=⟨_,rfl⟩
    rw[←A0];have hh:w2.heap=w1.heap:=by rw[A0,qt]
    have A5:Below w.heap.size w w2:=by rw[A0]; exact Below.drewn B3.out nq
    have A1:=B6.out;have A2:=B2.out;rw[←hh] at A1 A2;have B0:=aa A5;have A3:=aa A1;have A9:=aa A2;clear A5 A1 A2 d0 d1 d2 d3;obtain⟨d0,d1,d2,d3⟩:=ae A9.out;have HS:=aa (bh A3.out (.int .i64 6) (.int .i64 n) (.string s) (.slice (some ⟨bl,off,none⟩) ln c));obtain⟨r0,r1,r2,r3⟩:=ae A3.out;have f0:∀ o,w2.frozen? ⟨w.heap.size+1,o,none⟩=false:=fun o=>Rw.frozen_of A3.out;clear A0 hh;go_wp2_with fail
    obtain⟨A7,A8⟩:=HS.out;generalize World.setCell _ _ _=w9 at *;obtain⟨y0,y1,y2,y3⟩:=ae A7;refine bodyPost_ret (v:=.tuple #[.agg #[.int .i64 6,.int .i64 n,.string s,.slice (some ⟨bl,off,none⟩) ln c],.bool false]) (by simp[results,Tryz.results90,go_sem,y0,y1,y2,y3]) rfl ?_;have A4:=B0.out.trans (A8 w.heap.size (by omega));exact⟨A4,t,_,by rw[HF.out]; rfl,(HV.out.under A4).old,fun x h=>by rw[HF.out] at h; cases h⟩
   ·have gk:=beq_false_of_ne hk;clear hk;go_quiet (fail)
    obtain⟨w2,A0⟩:∃ w2,w2=w1.drewN nq:=⟨_,rfl⟩
    rw[←A0];have hh:w2.heap=w1.heap:=by rw[A0,qt]
    have A5:Below w.heap.size w w2:=by rw[A0]; exact Below.drewn B3.out nq
    have A1:=B6.out;have A2:=B2.out;rw[←hh] at A1 A2;have B0:=aa A5;have A3:=aa A1;have A9:=aa A2;clear A5 A1 A2 d0 d1 d2 d3;obtain⟨d0,d1,d2,d3⟩:=ae A9.out;have HS:=aa (bh A3.out (.int .i64 14) (.int .i64 n) (.string s) (.slice (some ⟨bl,off,none⟩) ln c));obtain⟨r0,r1,r2,r3⟩:=ae A3.out;have f0:∀ o,w2.frozen? ⟨w.heap.size+1,o,none⟩=false:=fun o=>Rw.frozen_of A3.out;clear A0 hh;go_wp2_with fail
    obtain⟨A7,A8⟩:=HS.out;generalize World.setCell _ _ _=w9 at *;obtain⟨y0,y1,y2,y3⟩:=ae A7;refine bodyPost_ret (v:=.tuple #[.agg #[.int .i64 14,.int .i64 n,.string s,.slice (some ⟨bl,off,none⟩) ln c],.bool false]) (by simp[results,Tryz.results90,go_sem,y0,y1,y2,y3]) rfl ?_;have A4:=B0.out.trans (A8 w.heap.size (by omega));exact⟨A4,t,_,by rw[HF.out]; rfl,(HV.out.under A4).old,fun x h=>by rw[HF.out] at h; cases h⟩
   ·have gk:=beq_false_of_ne hk;clear hk;go_quiet (fail)
    obtain⟨w2,A0⟩:∃ w2,w2=w1.drewN nq:=⟨_,rfl⟩
    rw[←A0];have hh:w2.heap=w1.heap:=by rw[A0,qt]
    have A5:Below w.heap.size w w2:=by rw[A0]; exact Below.drewn B3.out nq
    have A1:=B6.out;have A2:=B2.out;rw[←hh] at A1 A2;have B0:=aa A5;have A3:=aa A1;have A9:=aa A2;clear A5 A1 A2 d0 d1 d2 d3;obtain⟨d0,d1,d2,d3⟩:=ae A9.out;have HS:=aa (bh A3.out (.int .i64 25) (.int .i64 n) (.string s) (.slice (some ⟨bl,off,none⟩) ln c));obtain⟨r0,r1,r2,r3⟩:=ae A3.out;have f0:∀ o,w2.frozen? ⟨w.heap.size+1,o,none⟩=false:=fun o=>Rw.frozen_of A3.out;clear A0 hh;go_wp2_with fail
    obtain⟨A7,A8⟩:=HS.out;generalize World.setCell _ _ _=w9 at *;obtain⟨y0,y1,y2,y3⟩:=ae A7;refine bodyPost_ret (v:=.tuple #[.agg #[.int .i64 25,.int .i64 n,.string s,.slice (some ⟨bl,off,none⟩) ln c],.bool false]) (by simp[results,Tryz.results90,go_sem,y0,y1,y2,y3]) rfl ?_;have A4:=B0.out.trans (A8 w.heap.size (by omega));exact⟨A4,t,_,by rw[HF.out]; rfl,(HV.out.under A4).old,fun x h=>by rw[HF.out] at h; cases h⟩
 ·have HF:=aa (show Co.twice t=none by unfold Co.twice; rw[B7.out]; exact if_neg (fun h'=>h h'.1));simp only[not_or] at h;have q6:(op == 6)=false:=by simpa using h.1
  have D8:(op == 14)=false:=by simpa using h.2.1
  have D7:(op == 25)=false:=by simpa using h.2.2
  clear h;go_quiet (fail)
  obtain⟨w2,A0⟩:∃ w2,w2=w1.drewN nq:=⟨_,rfl⟩
  rw[←A0];have hh:w2.heap=w1.heap:=by rw[A0,qt]
  have A5:Below w.heap.size w w2:=by rw[A0]; exact Below.drewn B3.out nq
  have A1:=B6.out;have A2:=B2.out;rw[←hh] at A1 A2;have B0:=aa A5;have A3:=aa A1;have A9:=aa A2;clear A5 A1 A2 d0 d1 d2 d3;obtain⟨d0,d1,d2,d3⟩:=ae A9.out;have HS:=aa (bh A3.out (.int .i64 op) (.int .i64 n) (.string s) (.slice (some ⟨bl,off,none⟩) ln c));obtain⟨r0,r1,r2,r3⟩:=ae A3.out;have f0:∀ o,w2.frozen? ⟨w.heap.size+1,o,none⟩=false:=fun o=>Rw.frozen_of A3.out;clear A0 hh;go_wp2_with fail
  obtain⟨A7,A8⟩:=HS.out;generalize World.setCell _ _ _=w9 at *;obtain⟨y0,y1,y2,y3⟩:=ae A7;refine bodyPost_ret (v:=.tuple #[.agg #[.int .i64 op,.int .i64 n,.string s,.slice (some ⟨bl,off,none⟩) ln c],.bool false]) (by simp[results,Tryz.results90,go_sem,y0,y1,y2,y3]) rfl ?_;have A4:=B0.out.trans (A8 w.heap.size (by omega));exact⟨A4,t,_,by rw[HF.out]; rfl,(HV.out.under A4).old,fun x h=>by rw[HF.out] at h; cases h⟩
end
section
open Go.RowKit
set_option maxRecDepth 100000
set_option maxHeartbeats 4000000 in
theorem zfq (ok:Nat→Prop)(t:Co.T)(v:Value)(w:World)(hv:CoreIn ok w t v)(hx:t.letter≠0)(h0:0<t.ks.length):
  Calls Tryz.prog 92 #[v] w (lg ok (Co.settled t) w):=by
 obtain⟨op,n,s,p,ln,c,rfl,C6,hn,hs,C7⟩:=dw hv;have HV:=aa hv;obtain⟨bl,off,rfl,B0⟩:=nc hv h0;have D0:=heap_alloc_new w (.cells #[.int .i64 op,.int .i64 n,.string s,.slice (some ⟨bl,off,none⟩) ln c] 24);have B8:=heap_alloc_new (w.alloc (.cells #[.int .i64 op,.int .i64 n,.string s,.slice (some ⟨bl,off,none⟩) ln c] 24)) (.cells #[.int .i64 0,.int .i64 0,.string ⟨#[]⟩,.slice none 0 0] 24);simp only[World.size_alloc] at B8;have B9:Below w.heap.size w ((w.alloc (.cells #[.int .i64 op,.int .i64 n,.string s,.slice (some ⟨bl,off,none⟩) ln c] 24)).alloc (.cells #[.int .i64 0,.int .i64 0,.string ⟨#[]⟩,.slice none 0 0] 24)):=((Below.refl w.heap.size w).alloc (Nat.le_refl _) _).alloc (by simp) _;have C9:=(((Below.refl _ (w.alloc (.cells #[.int .i64 op,.int .i64 n,.string s,.slice (some ⟨bl,off,none⟩) ln c] 24))).alloc (Nat.le_refl _) (.cells #[.int .i64 0,.int .i64 0,.string ⟨#[]⟩,.slice none 0 0] 24)).block w.heap.size (by simp)).trans D0;have j0:(0:Int)<(ln:Int):=by omega
 have D4:=aa C6;have HN:=aa hn;have D9:=aa C7;have B3:=aa B0;have HX:=aa hx;have H0:=aa h0;clear D0 C6 hn hs C7 B0 hx h0 hv;go_enter Tryz.func92,Tryz.ntmps92;go_upto_region 1 with(fail)
 generalize World.alloc _ _=w1 at *;have D1:=aa B9;have C0:=aa B8;have C1:=aa C9;obtain⟨k,kat⟩:∃ k,t.ks[0]? = some k:=⟨_,List.getElem?_eq_getElem H0.out⟩
 obtain⟨kop,kn,ks,kp,klen,kc,kH⟩:=B3.out 0 k kat;have kK:=aa (kH.below B9);have kV:=aa kH.val;clear kH;clear B8 B9;obtain⟨d0,d1,d2,d3⟩:=ae C1.out;have D3:=aa kat;clear C9 kat;have C5:=kK.out.x0;have C4:=kK.out.x1;have C3:=kK.out.x2;have C2:=kK.out.x3;simp only[Nat.zero_mul,Nat.add_zero,Nat.one_mul] at C5 C4 C3 C2;go_wp2_with fail
 clear d0 d1 d2 d3 C5 C4 C3 C2;have B4:Below w1.heap.size w1 (w1.alloc (.cells #[.int .i64 kop,.int .i64 kn,.string ks,.slice kp klen kc] 24)):=(Below.refl _ _).alloc (Nat.le_refl _) _;have A7:=aa ((B4.block _ (af C1.out)).trans C1.out);have B1:=aa ((B4.block _ (af C0.out)).trans C0.out);have A4:=aa (heap_alloc_new w1 (.cells #[.int .i64 kop,.int .i64 kn,.string ks,.slice kp klen kc] 24));have A8:=aa (D1.out.trans (B4.mono D1.out.size));have D2:=af C0.out;obtain⟨kb,C8⟩:∃ kb,kb=w1.heap.size:=⟨_,rfl⟩
 rw[←C8] at A4 D2 ⊢;have A6:=aa (show w.heap.size≠w.heap.size+1 by omega);have A5:=aa (show kb≠w.heap.size+1 by omega);clear B4 C8;generalize World.alloc w1 _=w2 at *;have eK:t.kid 0=k:=by unfold Co.T.kid; rw[D3.out]; rfl
 have HD:=aa (show Co.settled t=if(op=15∧(kop == 2 && kn == 0)=true)∨(op=16∧(kop == 2 && kn == 1)=true)∨(op=25∧kop=23) then some k else none by
  unfold Co.settled Co.isBool;rw[eK,D4.out,kK.out.op',kK.out.n'])
 clear eK;by_cases B7:op=15
 ·subst B7;cases hg:(kop == 2 && kn == 0) with
  |true=>
   have HF:=aa (show Co.settled t=some k by rw[HD.out]; simp[hg]);refine fr (fun d w'=>w2.grownBy w' (some (w.heap.size+1))∧w'.heap[w.heap.size+1]? = some (.cells (bif d then #[.int .i64 kop,.int .i64 kn,.string ks,.slice kp klen kc] else #[.int .i64 0,.int .i64 0,.string ⟨#[]⟩,.slice none 0 0]) 24 (0,0))) 27 (by kernel_rfl) (by kernel_rfl) (by kernel_rfl) (by kernel_rfl) (by decide) ⟨Rw.grown_of_below (Below.refl _ _).drew _,B1.out⟩ ?_;repeat (first
    |(refine mw ?_ ?_ ?_
      ·exact Option.some_ne_none _
      ·rfl
      simp only[Act.put,List.setIfInBounds_toArray,List.set_cons_zero,List.set_cons_succ])
    |(refine lh ?_ ?_ ?_ ?_
      ·rfl
      ·rfl
      ·(intro W A0; obtain⟨d0,d1,d2,d3⟩:=ae (Rw.box_grown A0.1 A6.out A7.out); obtain⟨e0,e1,e2,e3⟩:=ae (Rw.box_grown A0.1 A5.out A4.out); obtain⟨r0,r1,r2,r3⟩:=ae A0.2; have f0:∀ o,W.frozen? ⟨w.heap.size+1,o,none⟩=false:=fun o=>Rw.frozen_of A0.2; refine⟨((((W.setCell ⟨(w.heap.size+1),0,none⟩ (.int .i64 kop)).setCell ⟨(w.heap.size+1),1,none⟩ (.int .i64 kn)).setCell ⟨(w.heap.size+1),2,none⟩ (.string ks)).setCell ⟨(w.heap.size+1),3,none⟩ (.slice kp klen kc)),?_,?_⟩; (focus (first|(go_simp; done)|(go_simp; with_reducible rfl))); exact⟨Rw.grown_trans A0.1 (jv W (w.heap.size+1) _ _ _ _),(bh A0.2 _ _ _ _).1⟩))
    |(apply yu 138 #[.agg #[.int .i64 kop,.int .i64 kn,.string ks,.slice kp klen kc],.int .i64 0]
      ·exact Option.some_ne_none _
      ·rfl
      ·(intro d W A0; obtain⟨d0,d1,d2,d3⟩:=ae (Rw.box_grown A0.1 A6.out A7.out); obtain⟨e0,e1,e2,e3⟩:=ae (Rw.box_grown A0.1 A5.out A4.out); go_simp; done)
      ·(intro d W A0; refine(fh _ _ 0 _ _ _ _ W).mono ?_; rintro e w'' ⟨rfl,b⟩; exact⟨by rw[hg],Rw.grown_trans A0.1 (Rw.grown_of_below b _),(b.block _ (af A0.2)).trans A0.2⟩)
      simp only[Act.put,List.setIfInBounds_toArray,List.set_cons_zero,List.set_cons_succ])
    |(apply pp
      ·exact Option.some_ne_none _
      ·rfl
      ·(intro d W A0; obtain⟨d0,d1,d2,d3⟩:=ae (Rw.box_grown A0.1 A6.out A7.out); obtain⟨e0,e1,e2,e3⟩:=ae (Rw.box_grown A0.1 A5.out A4.out); first|(go_simp; done)|(go_simp; with_reducible rfl))
      simp only[Act.put,List.setIfInBounds_toArray,List.set_cons_zero,List.set_cons_succ]))
   refine pq ?_;intro w3 A9;obtain⟨A1,A2⟩:=A9;have A3:=Rw.below_grown A8.out A1 (by omega) A8.out.size;obtain⟨y0,y1,y2,y3⟩:=ae A2;have HY:=aa (And.intro y0 (And.intro y1 (And.intro y2 y3)));clear y0 y1 y2 y3 A2 A1;go_wp2_with fail
   obtain⟨y0,y1,y2,y3⟩:=HY.out;refine bodyPost_ret (v:=.tuple #[.agg #[.int .i64 kop,.int .i64 kn,.string ks,.slice kp klen kc],.bool true]) (by simp[results,Tryz.results92,go_sem,y0,y1,y2,y3]) rfl ?_;exact⟨A3,k,_,by rw[HF.out]; rfl,(kV.out.under A3).old,fun x h=>by rw[HF.out] at h; cases h; rfl⟩
  |false=>
   have HF:=aa (show Co.settled t=none by rw[HD.out]; simp[hg]);refine fr (fun d w'=>w2.grownBy w' (some (w.heap.size+1))∧w'.heap[w.heap.size+1]? = some (.cells (bif d then #[.int .i64 kop,.int .i64 kn,.string ks,.slice kp klen kc] else #[.int .i64 0,.int .i64 0,.string ⟨#[]⟩,.slice none 0 0]) 24 (0,0))) 27 (by kernel_rfl) (by kernel_rfl) (by kernel_rfl) (by kernel_rfl) (by decide) ⟨Rw.grown_of_below (Below.refl _ _).drew _,B1.out⟩ ?_;repeat (first
    |(refine mw ?_ ?_ ?_
      ·exact Option.some_ne_none _
      ·rfl
      simp only[Act.put,List.setIfInBounds_toArray,List.set_cons_zero,List.set_cons_succ])
    |(refine lh ?_ ?_ ?_ ?_
      ·rfl
      ·rfl
      ·(intro W A0; obtain⟨d0,d1,d2,d3⟩:=ae (Rw.box_grown A0.1 A6.out A7.out); obtain⟨e0,e1,e2,e3⟩:=ae (Rw.box_grown A0.1 A5.out A4.out); obtain⟨r0,r1,r2,r3⟩:=ae A0.2; have f0:∀ o,W.frozen? ⟨w.heap.size+1,o,none⟩=false:=fun o=>Rw.frozen_of A0.2; refine⟨((((W.setCell ⟨(w.heap.size+1),0,none⟩ (.int .i64 kop)).setCell ⟨(w.heap.size+1),1,none⟩ (.int .i64 kn)).setCell ⟨(w.heap.size+1),2,none⟩ (.string ks)).setCell ⟨(w.heap.size+1),3,none⟩ (.slice kp klen kc)),?_,?_⟩; (focus (first|(go_simp; done)|(go_simp; with_reducible rfl))); exact⟨Rw.grown_trans A0.1 (jv W (w.heap.size+1) _ _ _ _),(bh A0.2 _ _ _ _).1⟩))
    |(apply yu 138 #[.agg #[.int .i64 kop,.int .i64 kn,.string ks,.slice kp klen kc],.int .i64 0]
      ·exact Option.some_ne_none _
      ·rfl
      ·(intro d W A0; obtain⟨d0,d1,d2,d3⟩:=ae (Rw.box_grown A0.1 A6.out A7.out); obtain⟨e0,e1,e2,e3⟩:=ae (Rw.box_grown A0.1 A5.out A4.out); go_simp; done)
      ·(intro d W A0; refine(fh _ _ 0 _ _ _ _ W).mono ?_; rintro e w'' ⟨rfl,b⟩; exact⟨by rw[hg],Rw.grown_trans A0.1 (Rw.grown_of_below b _),(b.block _ (af A0.2)).trans A0.2⟩)
      simp only[Act.put,List.setIfInBounds_toArray,List.set_cons_zero,List.set_cons_succ])
    |(apply pp
      ·exact Option.some_ne_none _
      ·rfl
      ·(intro d W A0; obtain⟨d0,d1,d2,d3⟩:=ae (Rw.box_grown A0.1 A6.out A7.out); obtain⟨e0,e1,e2,e3⟩:=ae (Rw.box_grown A0.1 A5.out A4.out); first|(go_simp; done)|(go_simp; with_reducible rfl))
      simp only[Act.put,List.setIfInBounds_toArray,List.set_cons_zero,List.set_cons_succ]))
   refine pq ?_;intro w3 A9;obtain⟨A1,A2⟩:=A9;have A3:=Rw.below_grown A8.out A1 (by omega) A8.out.size;obtain⟨y0,y1,y2,y3⟩:=ae A2;have HY:=aa (And.intro y0 (And.intro y1 (And.intro y2 y3)));clear y0 y1 y2 y3 A2 A1;go_wp2_with fail
   obtain⟨y0,y1,y2,y3⟩:=HY.out;refine bodyPost_ret (v:=.tuple #[.agg #[.int .i64 kop,.int .i64 kn,.string ks,.slice kp klen kc],.bool false]) (by simp[results,Tryz.results92,go_sem,y0,y1,y2,y3]) rfl ?_;exact⟨A3,k,_,by rw[HF.out]; rfl,(kV.out.under A3).old,fun x h=>by rw[HF.out] at h; cases h⟩
 by_cases B6:op=16
 ·subst B6;cases hg:(kop == 2 && kn == 1) with
  |true=>
   have HF:=aa (show Co.settled t=some k by rw[HD.out]; simp[hg]);refine fr (fun d w'=>w2.grownBy w' (some (w.heap.size+1))∧w'.heap[w.heap.size+1]? = some (.cells (bif d then #[.int .i64 kop,.int .i64 kn,.string ks,.slice kp klen kc] else #[.int .i64 0,.int .i64 0,.string ⟨#[]⟩,.slice none 0 0]) 24 (0,0))) 27 (by kernel_rfl) (by kernel_rfl) (by kernel_rfl) (by kernel_rfl) (by decide) ⟨Rw.grown_of_below (Below.refl _ _).drew _,B1.out⟩ ?_;repeat (first
    |(refine mw ?_ ?_ ?_
      ·exact Option.some_ne_none _
      ·rfl
      simp only[Act.put,List.setIfInBounds_toArray,List.set_cons_zero,List.set_cons_succ])
    |(refine lh ?_ ?_ ?_ ?_
      ·rfl
      ·rfl
      ·(intro W A0; obtain⟨d0,d1,d2,d3⟩:=ae (Rw.box_grown A0.1 A6.out A7.out); obtain⟨e0,e1,e2,e3⟩:=ae (Rw.box_grown A0.1 A5.out A4.out); obtain⟨r0,r1,r2,r3⟩:=ae A0.2; have f0:∀ o,W.frozen? ⟨w.heap.size+1,o,none⟩=false:=fun o=>Rw.frozen_of A0.2; refine⟨((((W.setCell ⟨(w.heap.size+1),0,none⟩ (.int .i64 kop)).setCell ⟨(w.heap.size+1),1,none⟩ (.int .i64 kn)).setCell ⟨(w.heap.size+1),2,none⟩ (.string ks)).setCell ⟨(w.heap.size+1),3,none⟩ (.slice kp klen kc)),?_,?_⟩; (focus (first|(go_simp; done)|(go_simp; with_reducible rfl))); exact⟨Rw.grown_trans A0.1 (jv W (w.heap.size+1) _ _ _ _),(bh A0.2 _ _ _ _).1⟩))
    |(apply yu 138 #[.agg #[.int .i64 kop,.int .i64 kn,.string ks,.slice kp klen kc],.int .i64 1]
      ·exact Option.some_ne_none _
      ·rfl
      ·(intro d W A0; obtain⟨d0,d1,d2,d3⟩:=ae (Rw.box_grown A0.1 A6.out A7.out); obtain⟨e0,e1,e2,e3⟩:=ae (Rw.box_grown A0.1 A5.out A4.out); go_simp; done)
      ·(intro d W A0; refine(fh _ _ 1 _ _ _ _ W).mono ?_; rintro e w'' ⟨rfl,b⟩; exact⟨by rw[hg],Rw.grown_trans A0.1 (Rw.grown_of_below b _),(b.block _ (af A0.2)).trans A0.2⟩)
      simp only[Act.put,List.setIfInBounds_toArray,List.set_cons_zero,List.set_cons_succ])
    |(apply pp
      ·exact Option.some_ne_none _
      ·rfl
      ·(intro d W A0; obtain⟨d0,d1,d2,d3⟩:=ae (Rw.box_grown A0.1 A6.out A7.out); obtain⟨e0,e1,e2,e3⟩:=ae (Rw.box_grown A0.1 A5.out A4.out); first|(go_simp; done)|(go_simp; with_reducible rfl))
      simp only[Act.put,List.setIfInBounds_toArray,List.set_cons_zero,List.set_cons_succ]))
   refine pq ?_;intro w3 A9;obtain⟨A1,A2⟩:=A9;have A3:=Rw.below_grown A8.out A1 (by omega) A8.out.size;obtain⟨y0,y1,y2,y3⟩:=ae A2;have HY:=aa (And.intro y0 (And.intro y1 (And.intro y2 y3)));clear y0 y1 y2 y3 A2 A1;go_wp2_with fail
   obtain⟨y0,y1,y2,y3⟩:=HY.out;refine bodyPost_ret (v:=.tuple #[.agg #[.int .i64 kop,.int .i64 kn,.string ks,.slice kp klen kc],.bool true]) (by simp[results,Tryz.results92,go_sem,y0,y1,y2,y3]) rfl ?_;exact⟨A3,k,_,by rw[HF.out]; rfl,(kV.out.under A3).old,fun x h=>by rw[HF.out] at h; cases h; rfl⟩
  |false=>
   have HF:=aa (show Co.settled t=none by rw[HD.out]; simp[hg]);refine fr (fun d w'=>w2.grownBy w' (some (w.heap.size+1))∧w'.heap[w.heap.size+1]? = some (.cells (bif d then #[.int .i64 kop,.int .i64 kn,.string ks,.slice kp klen kc] else #[.int .i64 0,.int .i64 0,.string ⟨#[]⟩,.slice none 0 0]) 24 (0,0))) 27 (by kernel_rfl) (by kernel_rfl) (by kernel_rfl) (by kernel_rfl) (by decide) ⟨Rw.grown_of_below (Below.refl _ _).drew _,B1.out⟩ ?_;repeat (first
    |(refine mw ?_ ?_ ?_
      ·exact Option.some_ne_none _
      ·rfl
      simp only[Act.put,List.setIfInBounds_toArray,List.set_cons_zero,List.set_cons_succ])
    |(refine lh ?_ ?_ ?_ ?_
      ·rfl
      ·rfl
      ·(intro W A0; obtain⟨d0,d1,d2,d3⟩:=ae (Rw.box_grown A0.1 A6.out A7.out); obtain⟨e0,e1,e2,e3⟩:=ae (Rw.box_grown A0.1 A5.out A4.out); obtain⟨r0,r1,r2,r3⟩:=ae A0.2; have f0:∀ o,W.frozen? ⟨w.heap.size+1,o,none⟩=false:=fun o=>Rw.frozen_of A0.2; refine⟨((((W.setCell ⟨(w.heap.size+1),0,none⟩ (.int .i64 kop)).setCell ⟨(w.heap.size+1),1,none⟩ (.int .i64 kn)).setCell ⟨(w.heap.size+1),2,none⟩ (.string ks)).setCell ⟨(w.heap.size+1),3,none⟩ (.slice kp klen kc)),?_,?_⟩; (focus (first|(go_simp; done)|(go_simp; with_reducible rfl))); exact⟨Rw.grown_trans A0.1 (jv W (w.heap.size+1) _ _ _ _),(bh A0.2 _ _ _ _).1⟩))
    |(apply yu 138 #[.agg #[.int .i64 kop,.int .i64 kn,.string ks,.slice kp klen kc],.int .i64 1]
      ·exact Option.some_ne_none _
      ·rfl
      ·(intro d W A0; obtain⟨d0,d1,d2,d3⟩:=ae (Rw.box_grown A0.1 A6.out A7.out); obtain⟨e0,e1,e2,e3⟩:=ae (Rw.box_grown A0.1 A5.out A4.out); go_simp; done)
      ·(intro d W A0; refine(fh _ _ 1 _ _ _ _ W).mono ?_; rintro e w'' ⟨rfl,b⟩; exact⟨by rw[hg],Rw.grown_trans A0.1 (Rw.grown_of_below b _),(b.block _ (af A0.2)).trans A0.2⟩)
      simp only[Act.put,List.setIfInBounds_toArray,List.set_cons_zero,List.set_cons_succ])
    |(apply pp
      ·exact Option.some_ne_none _
      ·rfl
      ·(intro d W A0; obtain⟨d0,d1,d2,d3⟩:=ae (Rw.box_grown A0.1 A6.out A7.out); obtain⟨e0,e1,e2,e3⟩:=ae (Rw.box_grown A0.1 A5.out A4.out); first|(go_simp; done)|(go_simp; with_reducible rfl))
      simp only[Act.put,List.setIfInBounds_toArray,List.set_cons_zero,List.set_cons_succ]))
   refine pq ?_;intro w3 A9;obtain⟨A1,A2⟩:=A9;have A3:=Rw.below_grown A8.out A1 (by omega) A8.out.size;obtain⟨y0,y1,y2,y3⟩:=ae A2;have HY:=aa (And.intro y0 (And.intro y1 (And.intro y2 y3)));clear y0 y1 y2 y3 A2 A1;go_wp2_with fail
   obtain⟨y0,y1,y2,y3⟩:=HY.out;refine bodyPost_ret (v:=.tuple #[.agg #[.int .i64 kop,.int .i64 kn,.string ks,.slice kp klen kc],.bool false]) (by simp[results,Tryz.results92,go_sem,y0,y1,y2,y3]) rfl ?_;exact⟨A3,k,_,by rw[HF.out]; rfl,(kV.out.under A3).old,fun x h=>by rw[HF.out] at h; cases h⟩
 by_cases B5:op=25
 ·subst B5;by_cases B2:kop=23
  ·have HF:=aa (show Co.settled t=some k by rw[HD.out]; simp[B2]);subst B2;refine fr (fun d w'=>w2.grownBy w' (some (w.heap.size+1))∧w'.heap[w.heap.size+1]? = some (.cells (bif d then #[.int .i64 23,.int .i64 kn,.string ks,.slice kp klen kc] else #[.int .i64 0,.int .i64 0,.string ⟨#[]⟩,.slice none 0 0]) 24 (0,0))) 27 (by kernel_rfl) (by kernel_rfl) (by kernel_rfl) (by kernel_rfl) (by decide) ⟨Rw.grown_of_below (Below.refl _ _).drew _,B1.out⟩ ?_;repeat (first
    |(refine mw ?_ ?_ ?_
      ·exact Option.some_ne_none _
      ·rfl
      simp only[Act.put,List.setIfInBounds_toArray,List.set_cons_zero,List.set_cons_succ])
    |(refine lh ?_ ?_ ?_ ?_
      ·rfl
      ·rfl
      ·(intro W A0; obtain⟨d0,d1,d2,d3⟩:=ae (Rw.box_grown A0.1 A6.out A7.out); obtain⟨e0,e1,e2,e3⟩:=ae (Rw.box_grown A0.1 A5.out A4.out); obtain⟨r0,r1,r2,r3⟩:=ae A0.2; have f0:∀ o,W.frozen? ⟨w.heap.size+1,o,none⟩=false:=fun o=>Rw.frozen_of A0.2; refine⟨((((W.setCell ⟨(w.heap.size+1),0,none⟩ (.int .i64 23)).setCell ⟨(w.heap.size+1),1,none⟩ (.int .i64 kn)).setCell ⟨(w.heap.size+1),2,none⟩ (.string ks)).setCell ⟨(w.heap.size+1),3,none⟩ (.slice kp klen kc)),?_,?_⟩; (focus (first|(go_simp; done)|(go_simp; with_reducible rfl))); exact⟨Rw.grown_trans A0.1 (jv W (w.heap.size+1) _ _ _ _),(bh A0.2 _ _ _ _).1⟩))
    |(apply pp
      ·exact Option.some_ne_none _
      ·rfl
      ·(intro d W A0; obtain⟨d0,d1,d2,d3⟩:=ae (Rw.box_grown A0.1 A6.out A7.out); obtain⟨e0,e1,e2,e3⟩:=ae (Rw.box_grown A0.1 A5.out A4.out); first|(go_simp; done)|(go_simp; with_reducible rfl))
      simp only[Act.put,List.setIfInBounds_toArray,List.set_cons_zero,List.set_cons_succ]))
   refine pq ?_;intro w3 A9;obtain⟨A1,A2⟩:=A9;have A3:=Rw.below_grown A8.out A1 (by omega) A8.out.size;obtain⟨y0,y1,y2,y3⟩:=ae A2;have HY:=aa (And.intro y0 (And.intro y1 (And.intro y2 y3)));clear y0 y1 y2 y3 A2 A1;go_wp2_with fail
   obtain⟨y0,y1,y2,y3⟩:=HY.out;refine bodyPost_ret (v:=.tuple #[.agg #[.int .i64 23,.int .i64 kn,.string ks,.slice kp klen kc],.bool true]) (by simp[results,Tryz.results92,go_sem,y0,y1,y2,y3]) rfl ?_;exact⟨A3,k,_,by rw[HF.out]; rfl,(kV.out.under A3).old,fun x h=>by rw[HF.out] at h; cases h; rfl⟩
  ·have HF:=aa (show Co.settled t=none by rw[HD.out]; simp[B2]);have D6:(kop == 23)=false:=by simpa using B2
   clear B2;refine fr (fun d w'=>w2.grownBy w' (some (w.heap.size+1))∧w'.heap[w.heap.size+1]? = some (.cells (bif d then #[.int .i64 kop,.int .i64 kn,.string ks,.slice kp klen kc] else #[.int .i64 0,.int .i64 0,.string ⟨#[]⟩,.slice none 0 0]) 24 (0,0))) 27 (by kernel_rfl) (by kernel_rfl) (by kernel_rfl) (by kernel_rfl) (by decide) ⟨Rw.grown_of_below (Below.refl _ _).drew _,B1.out⟩ ?_;repeat (first
    |(refine mw ?_ ?_ ?_
      ·exact Option.some_ne_none _
      ·rfl
      simp only[Act.put,List.setIfInBounds_toArray,List.set_cons_zero,List.set_cons_succ])
    |(refine lh ?_ ?_ ?_ ?_
      ·rfl
      ·rfl
      ·(intro W A0; obtain⟨d0,d1,d2,d3⟩:=ae (Rw.box_grown A0.1 A6.out A7.out); obtain⟨e0,e1,e2,e3⟩:=ae (Rw.box_grown A0.1 A5.out A4.out); obtain⟨r0,r1,r2,r3⟩:=ae A0.2; have f0:∀ o,W.frozen? ⟨w.heap.size+1,o,none⟩=false:=fun o=>Rw.frozen_of A0.2; refine⟨((((W.setCell ⟨(w.heap.size+1),0,none⟩ (.int .i64 kop)).setCell ⟨(w.heap.size+1),1,none⟩ (.int .i64 kn)).setCell ⟨(w.heap.size+1),2,none⟩ (.string ks)).setCell ⟨(w.heap.size+1),3,none⟩ (.slice kp klen kc)),?_,?_⟩; (focus (first|(go_simp; done)|(go_simp; with_reducible rfl))); exact⟨Rw.grown_trans A0.1 (jv W (w.heap.size+1) _ _ _ _),(bh A0.2 _ _ _ _).1⟩))
    |(apply pp
      ·exact Option.some_ne_none _
      ·rfl
      ·(intro d W A0; obtain⟨d0,d1,d2,d3⟩:=ae (Rw.box_grown A0.1 A6.out A7.out); obtain⟨e0,e1,e2,e3⟩:=ae (Rw.box_grown A0.1 A5.out A4.out); first|(go_simp; done)|(go_simp; with_reducible rfl))
      simp only[Act.put,List.setIfInBounds_toArray,List.set_cons_zero,List.set_cons_succ]))
   refine pq ?_;intro w3 A9;obtain⟨A1,A2⟩:=A9;have A3:=Rw.below_grown A8.out A1 (by omega) A8.out.size;obtain⟨y0,y1,y2,y3⟩:=ae A2;have HY:=aa (And.intro y0 (And.intro y1 (And.intro y2 y3)));clear y0 y1 y2 y3 A2 A1;go_wp2_with fail
   obtain⟨y0,y1,y2,y3⟩:=HY.out;refine bodyPost_ret (v:=.tuple #[.agg #[.int .i64 kop,.int .i64 kn,.string ks,.slice kp klen kc],.bool false]) (by simp[results,Tryz.results92,go_sem,y0,y1,y2,y3]) rfl ?_;exact⟨A3,k,_,by rw[HF.out]; rfl,(kV.out.under A3).old,fun x h=>by rw[HF.out] at h; cases h⟩
 ·have HF:=aa (show Co.settled t=none by rw[HD.out]; simp[B7,B6,B5]);have D8:(op == 15)=false:=by simpa using B7
  have D7:(op == 16)=false:=by simpa using B6
  have D5:(op == 25)=false:=by simpa using B5
  clear B7 B6 B5;refine fr (fun d w'=>w2.grownBy w' (some (w.heap.size+1))∧w'.heap[w.heap.size+1]? = some (.cells (bif d then #[.int .i64 kop,.int .i64 kn,.string ks,.slice kp klen kc] else #[.int .i64 0,.int .i64 0,.string ⟨#[]⟩,.slice none 0 0]) 24 (0,0))) 27 (by kernel_rfl) (by kernel_rfl) (by kernel_rfl) (by kernel_rfl) (by decide) ⟨Rw.grown_of_below (Below.refl _ _).drew _,B1.out⟩ ?_;repeat (first
   |(refine mw ?_ ?_ ?_
     ·exact Option.some_ne_none _
     ·rfl
     simp only[Act.put,List.setIfInBounds_toArray,List.set_cons_zero,List.set_cons_succ])
   |(refine lh ?_ ?_ ?_ ?_
     ·rfl
     ·rfl
     ·(intro W A0; obtain⟨d0,d1,d2,d3⟩:=ae (Rw.box_grown A0.1 A6.out A7.out); obtain⟨e0,e1,e2,e3⟩:=ae (Rw.box_grown A0.1 A5.out A4.out); obtain⟨r0,r1,r2,r3⟩:=ae A0.2; have f0:∀ o,W.frozen? ⟨w.heap.size+1,o,none⟩=false:=fun o=>Rw.frozen_of A0.2; refine⟨((((W.setCell ⟨(w.heap.size+1),0,none⟩ (.int .i64 kop)).setCell ⟨(w.heap.size+1),1,none⟩ (.int .i64 kn)).setCell ⟨(w.heap.size+1),2,none⟩ (.string ks)).setCell ⟨(w.heap.size+1),3,none⟩ (.slice kp klen kc)),?_,?_⟩; (focus (first|(go_simp; done)|(go_simp; with_reducible rfl))); exact⟨Rw.grown_trans A0.1 (jv W (w.heap.size+1) _ _ _ _),(bh A0.2 _ _ _ _).1⟩))
   |(apply pp
     ·exact Option.some_ne_none _
     ·rfl
     ·(intro d W A0; obtain⟨d0,d1,d2,d3⟩:=ae (Rw.box_grown A0.1 A6.out A7.out); obtain⟨e0,e1,e2,e3⟩:=ae (Rw.box_grown A0.1 A5.out A4.out); first|(go_simp; done)|(go_simp; with_reducible rfl))
     simp only[Act.put,List.setIfInBounds_toArray,List.set_cons_zero,List.set_cons_succ]))
  refine pq ?_;intro w3 A9;obtain⟨A1,A2⟩:=A9;have A3:=Rw.below_grown A8.out A1 (by omega) A8.out.size;obtain⟨y0,y1,y2,y3⟩:=ae A2;have HY:=aa (And.intro y0 (And.intro y1 (And.intro y2 y3)));clear y0 y1 y2 y3 A2 A1;go_wp2_with fail
  obtain⟨y0,y1,y2,y3⟩:=HY.out;refine bodyPost_ret (v:=.tuple #[.agg #[.int .i64 kop,.int .i64 kn,.string ks,.slice kp klen kc],.bool false]) (by simp[results,Tryz.results92,go_sem,y0,y1,y2,y3]) rfl ?_;exact⟨A3,k,_,by rw[HF.out]; rfl,(kV.out.under A3).old,fun x h=>by rw[HF.out] at h; cases h⟩
end
section
open Go.RowKit
set_option maxRecDepth 100000
theorem tl {W W':World}{b o B:Nat}{v:Value}(g:W.grownBy W' (some B))(A0:b≠B)(h:W.cell? ⟨b,o,none⟩=some v):W'.cell? ⟨b,o,none⟩=some v:=by
 have hl:=World.block_lt_of_cell? W _ h;have hg:=g.block b hl (fun e=>by cases e; exact A0 rfl);unfold World.cell? at *;simp only at *;rw[hg];exact h
theorem zla {ok:Nat→Prop}{W:World}{t k:Co.T}{op n:Int}{s:ByteArray}{p:Option Addr}{len c:Nat}{kop kn:Int}{ks:ByteArray}{kp:Option Addr}{klen kc:Nat}(ht:CoreIn ok W t (.agg #[.int .i64 op,.int .i64 n,.string s,.slice p len c]))
  (hk:CoreIn ok W k (.agg #[.int .i64 kop,.int .i64 kn,.string ks,.slice kp klen kc])) (hl:k.ks.length=klen) (hn:t.n=n):CoreIn ok W (.mk 29 (max n kn) ⟨#[]⟩ k.ks) (.agg #[.int .i64 29,.int .i64 (max n kn),.string ⟨#[]⟩,.slice kp klen kc]):=by
 obtain⟨p',c',e,hc,ho,A2,hs,A1⟩:=hk.open;obtain⟨_,_,_,_,_,A0,_,_⟩:=ht.open;have e1:kn=k.n∧kp=p'∧kc=c':=by simp at e; exact⟨e.2.1,e.2.2.2.1,e.2.2.2.2.2⟩
 obtain⟨rfl,rfl,rfl⟩:=e1;subst hl;refine CoreIn.close hc (by unfold I64; omega) ?_ (by decide) A1;rw[hn] at A0;unfold I64 at *;omega
set_option maxHeartbeats 4000000 in
theorem zja (ok:Nat→Prop)(t:Co.T)(v:Value)(w:World)(hv:CoreIn ok w t v)(hx:t.letter≠0)(h0:0<t.ks.length):
  Calls Tryz.prog 93 #[v] w (lg ok (Co.later t) w):=by
 obtain⟨op,n,s,p,ln,c,rfl,B7,hn,hs,B8⟩:=dw hv;have HV:=aa hv;obtain⟨bl,off,rfl,A1⟩:=nc hv h0;have C1:=heap_alloc_new w (.cells #[.int .i64 op,.int .i64 n,.string s,.slice (some ⟨bl,off,none⟩) ln c] 24);have B1:=heap_alloc_new (w.alloc (.cells #[.int .i64 op,.int .i64 n,.string s,.slice (some ⟨bl,off,none⟩) ln c] 24)) (.cells #[.int .i64 0,.int .i64 0,.string ⟨#[]⟩,.slice none 0 0] 24);simp only[World.size_alloc] at B1;have B3:Below w.heap.size w ((w.alloc (.cells #[.int .i64 op,.int .i64 n,.string s,.slice (some ⟨bl,off,none⟩) ln c] 24)).alloc (.cells #[.int .i64 0,.int .i64 0,.string ⟨#[]⟩,.slice none 0 0] 24)):=((Below.refl w.heap.size w).alloc (Nat.le_refl _) _).alloc (by simp) _;have C0:=(((Below.refl _ (w.alloc (.cells #[.int .i64 op,.int .i64 n,.string s,.slice (some ⟨bl,off,none⟩) ln c] 24))).alloc (Nat.le_refl _) (.cells #[.int .i64 0,.int .i64 0,.string ⟨#[]⟩,.slice none 0 0] 24)).block w.heap.size (by simp)).trans C1;have j0:(0:Int)<(ln:Int):=by omega
 have C5:=aa B7;have HN:=aa hn;have C6:=aa B8;have A7:=aa A1;have HX:=aa hx;have H0:=aa h0;clear C1 B7 hn hs B8 A1 hx h0 hv;go_enter Tryz.func93,Tryz.ntmps93;go_upto_region 1 with(fail)
 generalize World.alloc _ _=w1 at *;have B0:=aa B3;have A3:=aa B1;have B4:=aa C0;obtain⟨k,kat⟩:∃ k,t.ks[0]? = some k:=⟨_,List.getElem?_eq_getElem H0.out⟩
 obtain⟨kop,kn,ks,kp,klen,kc,kH⟩:=A7.out 0 k kat;have kK:=aa (kH.below B3);have kV:=aa kH.val;have kLT:=aa kH.lt;clear kH;clear B1 B3;obtain⟨d0,d1,d2,d3⟩:=ae B4.out;have C4:=aa kat;clear C0 kat;have B6:=kK.out.x0;have A6:=kK.out.x1;have B5:=kK.out.x2;have A5:=kK.out.x3;simp only[Nat.zero_mul,Nat.add_zero,Nat.one_mul] at B6 A6 B5 A5;have eK:t.kid 0=k:=by unfold Co.T.kid; rw[C4.out]; rfl
 have HD:=aa (show Co.later t=if op=29∧kop=29 then some (.mk 29 (max n kn) ⟨#[]⟩ k.ks) else none by
  unfold Co.later;rw[eK,C5.out,HN.out,kK.out.op',kK.out.n'])
 clear eK;by_cases h:op=29
 ·subst h;by_cases hk:kop=29
  ·subst hk;have HF:=aa (show Co.later t=some (.mk 29 (max n kn) ⟨#[]⟩ k.ks) by rw[HD.out]; exact if_pos ⟨rfl,rfl⟩);go_upto_region 3 with(fail)
   have A8:=aa (And.intro kK.out.lt (And.intro A6 A5));clear d0 d1 d2 d3 B6 A6 B5 A5;have C2:=aa (show w.heap.size≠w.heap.size+1 by omega);have A9:=aa (show bl≠w.heap.size+1 by have h5:=kLT.out; omega);refine fr (fun d w'=>w1.grownBy w' (some (w.heap.size+1))∧w'.heap[w.heap.size+1]? = some (.cells (bif d then #[.int .i64 29,.int .i64 (max n kn),.string ⟨#[]⟩,.slice kp klen kc] else #[.int .i64 0,.int .i64 0,.string ⟨#[]⟩,.slice none 0 0]) 24 (0,0))) 14 (by kernel_rfl) (by kernel_rfl) (by kernel_rfl) (by kernel_rfl) (by decide) ⟨Rw.grown_of_below (Below.refl _ _).drew _,A3.out⟩ ?_;repeat (first
    |(refine mw ?_ ?_ ?_
      ·exact Option.some_ne_none _
      ·rfl
      simp only[Act.put,List.setIfInBounds_toArray,List.set_cons_zero,List.set_cons_succ])
    |(refine lh ?_ ?_ ?_ ?_
      ·rfl
      ·rfl
      ·(intro W A0; have j0n:0<ln:=(by omega); obtain⟨d0,d1,d2,d3⟩:=ae (Rw.box_grown A0.1 C2.out B4.out); have A6:=tl A0.1 A9.out A8.out.2.1; have A5:=tl A0.1 A9.out A8.out.2.2; obtain⟨r0,r1,r2,r3⟩:=ae A0.2; have f0:∀ o,W.frozen? ⟨w.heap.size+1,o,none⟩=false:=fun o=>Rw.frozen_of A0.2; refine⟨((((W.setCell ⟨(w.heap.size+1),0,none⟩ (.int .i64 29)).setCell ⟨(w.heap.size+1),1,none⟩ (.int .i64 (max n kn))).setCell ⟨(w.heap.size+1),2,none⟩ (.string ⟨#[]⟩)).setCell ⟨(w.heap.size+1),3,none⟩ (.slice kp klen kc)),?_,?_⟩; (focus (first|(go_simp; done)|(go_simp; with_reducible rfl))); exact⟨Rw.grown_trans A0.1 (jv W (w.heap.size+1) _ _ _ _),(bh A0.2 _ _ _ _).1⟩))
    |(apply pp
      ·exact Option.some_ne_none _
      ·rfl
      ·(intro d W A0; have j0n:0<ln:=(by omega); obtain⟨d0,d1,d2,d3⟩:=ae (Rw.box_grown A0.1 C2.out B4.out); have A6:=tl A0.1 A9.out A8.out.2.1; have A5:=tl A0.1 A9.out A8.out.2.2; first|(go_simp; done)|(go_simp; with_reducible rfl))
      simp only[Act.put,List.setIfInBounds_toArray,List.set_cons_zero,List.set_cons_succ]))
   refine pq ?_;intro w3 C3;obtain⟨B9,A4⟩:=C3;have A2:=Rw.below_grown B0.out B9 (by omega) B0.out.size;obtain⟨y0,y1,y2,y3⟩:=ae A4;have HY:=aa (And.intro y0 (And.intro y1 (And.intro y2 y3)));clear y0 y1 y2 y3 A4 B9;go_wp2_with fail
   obtain⟨y0,y1,y2,y3⟩:=HY.out;refine bodyPost_ret (v:=.tuple #[.agg #[.int .i64 29,.int .i64 (max n kn),.string ⟨#[]⟩,.slice kp klen kc],.bool true]) (by simp[results,Tryz.results93,go_sem,y0,y1,y2,y3]) rfl ?_;refine⟨A2,_,_,by rw[HF.out]; rfl,?_,fun x h=>by rw[HF.out] at h; cases h; rfl⟩;exact((zla HV.out kV.out kK.out.len' HN.out).under A2).old
  ·have HF:=aa (show Co.later t=none by rw[HD.out]; exact if_neg (fun h=>hk h.2));have gk:(kop != 29)=true:=by simpa using hk
   clear hk;have HS:=aa (bh A3.out (.int .i64 29) (.int .i64 n) (.string s) (.slice (some ⟨bl,off,none⟩) ln c));obtain⟨r0,r1,r2,r3⟩:=ae A3.out;have f0:∀ o,w1.frozen? ⟨w.heap.size+1,o,none⟩=false:=fun o=>Rw.frozen_of A3.out;go_wp2_with fail
   obtain⟨A4,B2⟩:=HS.out;generalize World.setCell _ _ _=w9 at *;obtain⟨y0,y1,y2,y3⟩:=ae A4;refine bodyPost_ret (v:=.tuple #[.agg #[.int .i64 29,.int .i64 n,.string s,.slice (some ⟨bl,off,none⟩) ln c],.bool false]) (by simp[results,Tryz.results93,go_sem,y0,y1,y2,y3]) rfl ?_;have A2:=B0.out.trans (B2 w.heap.size (by omega));exact⟨A2,t,_,by rw[HF.out]; rfl,(HV.out.under A2).old,fun x h=>by rw[HF.out] at h; cases h⟩
 ·have HF:=aa (show Co.later t=none by rw[HD.out]; exact if_neg (fun h'=>h h'.1));have gk:(op != 29)=true:=by simpa using h
  clear h;have HS:=aa (bh A3.out (.int .i64 op) (.int .i64 n) (.string s) (.slice (some ⟨bl,off,none⟩) ln c));obtain⟨r0,r1,r2,r3⟩:=ae A3.out;have f0:∀ o,w1.frozen? ⟨w.heap.size+1,o,none⟩=false:=fun o=>Rw.frozen_of A3.out;go_wp2_with fail
  obtain⟨A4,B2⟩:=HS.out;generalize World.setCell _ _ _=w9 at *;obtain⟨y0,y1,y2,y3⟩:=ae A4;refine bodyPost_ret (v:=.tuple #[.agg #[.int .i64 op,.int .i64 n,.string s,.slice (some ⟨bl,off,none⟩) ln c],.bool false]) (by simp[results,Tryz.results93,go_sem,y0,y1,y2,y3]) rfl ?_;have A2:=B0.out.trans (B2 w.heap.size (by omega));exact⟨A2,t,_,by rw[HF.out]; rfl,(HV.out.under A2).old,fun x h=>by rw[HF.out] at h; cases h⟩
end
section
open Go.RowKit
set_option maxRecDepth 100000
theorem Co.chosen_kids {t:Co.T}(h:t.op=22∨t.op=28)(h2:(t.kid 0).op=2)(hx:t.letter≠0):∃ i j,(((t.kid 0).n=1∧i=1)∨((t.kid 0).n=0∧i=2))∧t.ks[i]? = some j∧t.kid (2 - (t.kid 0).n).toNat=j:=by
 have h3:∃ k j i,t.ks=[k,j,i]∧k.letter=98∧t.kid 0=k∧t.kid 1=j∧t.kid 2=i:=by
  rcases h with e|e
  ·obtain⟨o,n,s,ks⟩:=t;have ee:o=22:=e;subst ee;obtain⟨a,b,c,rfl,l1, -⟩:=(Co.letter_22 hx).1 rfl;exact⟨a,b,c,rfl,l1,rfl,rfl,rfl⟩
  ·obtain⟨h1, -, -⟩:=Co.open_kids (t:=t) (by rw[e]; decide) (by rw[e]; exact Co.want_28) hx;obtain⟨k,j,i,a1,a2,a3,a4,a5⟩:=Co.three_kids h1;exact⟨k,j,i,a1,a2.1,a3,a4,a5⟩
 obtain⟨k,j,i,a1,l1,a3,a4,a5⟩:=h3;rw[a3] at h2 ⊢;obtain⟨-, -,hf⟩:=Co.open_kids (t:=k) (by rw[h2]; decide) (by rw[h2]; exact Co.want_2) (by rw[l1]; decide);rw[h2] at hf;rcases Co.bool_of hf with e|e
 ·exact⟨2,i,.inr ⟨e,rfl⟩,by rw[a1]; rfl,by rw[e]; exact a5⟩
 ·exact⟨1,j,.inl ⟨e,rfl⟩,by rw[a1]; rfl,by rw[e]; exact a4⟩
set_option maxHeartbeats 4000000 in
theorem zht (ok:Nat→Prop)(t:Co.T)(v:Value)(w:World)(hv:CoreIn ok w t v)(hx:t.letter≠0)(h0:0<t.ks.length):
  Calls Tryz.prog 94 #[v] w (lg ok (Co.chosen t) w):=by
 obtain⟨op,n,s,p,ln,c,rfl,C1,hn,hs,C2⟩:=dw hv;have HV:=aa hv;obtain⟨bl,off,rfl,A4⟩:=nc hv h0;have C6:=heap_alloc_new w (.cells #[.int .i64 op,.int .i64 n,.string s,.slice (some ⟨bl,off,none⟩) ln c] 24);have B3:=heap_alloc_new (w.alloc (.cells #[.int .i64 op,.int .i64 n,.string s,.slice (some ⟨bl,off,none⟩) ln c] 24)) (.cells #[.int .i64 0,.int .i64 0,.string ⟨#[]⟩,.slice none 0 0] 24);simp only[World.size_alloc] at B3;have B4:Below w.heap.size w ((w.alloc (.cells #[.int .i64 op,.int .i64 n,.string s,.slice (some ⟨bl,off,none⟩) ln c] 24)).alloc (.cells #[.int .i64 0,.int .i64 0,.string ⟨#[]⟩,.slice none 0 0] 24)):=((Below.refl w.heap.size w).alloc (Nat.le_refl _) _).alloc (by simp) _;have C5:=(((Below.refl _ (w.alloc (.cells #[.int .i64 op,.int .i64 n,.string s,.slice (some ⟨bl,off,none⟩) ln c] 24))).alloc (Nat.le_refl _) (.cells #[.int .i64 0,.int .i64 0,.string ⟨#[]⟩,.slice none 0 0] 24)).block w.heap.size (by simp)).trans C6;have j0:(0:Int)<(ln:Int):=by omega
 have C7:=aa C1;have HN:=aa hn;have D2:=aa C2;have A5:=aa A4;have HX:=aa hx;have H0:=aa h0;clear C6 C1 hn hs C2 A4 hx h0 hv;go_enter Tryz.func94,Tryz.ntmps94;go_upto_region 1 with(fail)
 generalize World.alloc _ _=w1 at *;have C9:=aa B4;have B5:=aa B3;have B6:=aa C5;obtain⟨k,kat⟩:∃ k,t.ks[0]? = some k:=⟨_,List.getElem?_eq_getElem H0.out⟩
 obtain⟨kop,kn,ks,kp,klen,kc,kH⟩:=A5.out 0 k kat;have kK:=aa (kH.below B4);have kV:=aa kH.val;clear kH;clear B3 B4;obtain⟨d0,d1,d2,d3⟩:=ae B6.out;have D1:=aa kat;clear C5 kat;have C0:=kK.out.x0;have B9:=kK.out.x1;have B8:=kK.out.x2;have B7:=kK.out.x3;simp only[Nat.zero_mul,Nat.add_zero,Nat.one_mul] at C0 B9 B8 B7;go_upto_region 2 with(fail)
 clear d0 d1 d2 d3 C0 B9 B8 B7;have B2:Below w1.heap.size w1 (w1.alloc (.cells #[.int .i64 kop,.int .i64 kn,.string ks,.slice kp klen kc] 24)):=(Below.refl _ _).alloc (Nat.le_refl _) _;have D3:=aa ((B2.block _ (af B6.out)).trans B6.out);have A0:=aa ((B2.block _ (af B5.out)).trans B5.out);have C8:=aa (heap_alloc_new w1 (.cells #[.int .i64 kop,.int .i64 kn,.string ks,.slice kp klen kc] 24));have A6:=aa (C9.out.trans (B2.mono C9.out.size));have D0:=af B5.out;obtain⟨kb,C4⟩:∃ kb,kb=w1.heap.size:=⟨_,rfl⟩
 rw[←C4] at C8 D0 ⊢;have D8:=aa (show w.heap.size≠w.heap.size+1 by omega);have D7:=aa (show kb≠w.heap.size+1 by omega);clear B2 C4;generalize World.alloc w1 _=w2 at *;have eK:t.kid 0=k:=by unfold Co.T.kid; rw[D1.out]; rfl
 have HD:=aa (show Co.chosen t=if(op=22∨op=28)∧kop=2 then some (t.kid (2 - kn).toNat) else none by
  unfold Co.chosen;rw[eK,C7.out,kK.out.op',kK.out.n'])
 obtain⟨d0,d1,d2,d3⟩:=ae D3.out;obtain⟨e0,e1,e2,e3⟩:=ae C8.out;by_cases h:op=22∨op=28
 ·by_cases B1:kop=2
  ·subst B1;have h3:=Co.chosen_kids (by rw[C7.out]; exact h) (by rw[eK,kK.out.op']) HX.out;rw[eK,kK.out.n'] at h3;obtain⟨i,j,hi,hj,C3⟩:=h3;obtain⟨jop,jn,js,jp,jlen,jc,jH⟩:=A5.out i j hj;have jV:=aa jH.val;have JK:=aa (jH.below A6.out);have HF:=aa (show Co.chosen t=some j by rw[HD.out,if_pos ⟨h,rfl⟩,C3]);have D6:i<ln:=by rw[←D2.out]; exact(List.getElem?_eq_some_iff.1 hj).1
   clear hj C3 jH eK;have B0:=JK.out.x0;have A9:=JK.out.x1;have A8:=JK.out.x2;have A7:=JK.out.x3;rcases h with rfl|rfl
   ·rcases hi with⟨rfl,rfl⟩|⟨rfl,rfl⟩
    ·have j1:((1:Nat):Int)<(ln:Int):=by omega
     have j2:(1:Int)<(ln:Int):=by omega
     have j3:IntKind.i64.wrap (2 - 1)=1:=by decide
     simp only[Nat.reduceMul] at B0 A9 A8 A7;have HS:=aa (bh A0.out (.int .i64 jop) (.int .i64 jn) (.string js) (.slice jp jlen jc));obtain⟨r0,r1,r2,r3⟩:=ae A0.out;have f0:∀ o,w2.frozen? ⟨w.heap.size+1,o,none⟩=false:=fun o=>Rw.frozen_of A0.out;go_wp2_with fail
     obtain⟨A2,A3⟩:=HS.out;generalize World.setCell _ _ _=w9 at *;obtain⟨y0,y1,y2,y3⟩:=ae A2;refine bodyPost_ret (v:=.tuple #[.agg #[.int .i64 jop,.int .i64 jn,.string js,.slice jp jlen jc],.bool true]) (by simp[results,Tryz.results94,go_sem,y0,y1,y2,y3]) rfl ?_;have A1:=A6.out.trans (A3 w.heap.size (by omega));exact⟨A1,j,_,by rw[HF.out]; rfl,(jV.out.under A1).old,fun x h=>by rw[HF.out] at h; cases h; rfl⟩
    ·have j1:((2:Nat):Int)<(ln:Int):=by omega
     have j2:(2:Int)<(ln:Int):=by omega
     have j3:IntKind.i64.wrap (2 - 0)=2:=by decide
     simp only[Nat.reduceMul] at B0 A9 A8 A7;have HS:=aa (bh A0.out (.int .i64 jop) (.int .i64 jn) (.string js) (.slice jp jlen jc));obtain⟨r0,r1,r2,r3⟩:=ae A0.out;have f0:∀ o,w2.frozen? ⟨w.heap.size+1,o,none⟩=false:=fun o=>Rw.frozen_of A0.out;go_wp2_with fail
     obtain⟨A2,A3⟩:=HS.out;generalize World.setCell _ _ _=w9 at *;obtain⟨y0,y1,y2,y3⟩:=ae A2;refine bodyPost_ret (v:=.tuple #[.agg #[.int .i64 jop,.int .i64 jn,.string js,.slice jp jlen jc],.bool true]) (by simp[results,Tryz.results94,go_sem,y0,y1,y2,y3]) rfl ?_;have A1:=A6.out.trans (A3 w.heap.size (by omega));exact⟨A1,j,_,by rw[HF.out]; rfl,(jV.out.under A1).old,fun x h=>by rw[HF.out] at h; cases h; rfl⟩
   ·rcases hi with⟨rfl,rfl⟩|⟨rfl,rfl⟩
    ·have j1:((1:Nat):Int)<(ln:Int):=by omega
     have j2:(1:Int)<(ln:Int):=by omega
     have j3:IntKind.i64.wrap (2 - 1)=1:=by decide
     simp only[Nat.reduceMul] at B0 A9 A8 A7;have HS:=aa (bh A0.out (.int .i64 jop) (.int .i64 jn) (.string js) (.slice jp jlen jc));obtain⟨r0,r1,r2,r3⟩:=ae A0.out;have f0:∀ o,w2.frozen? ⟨w.heap.size+1,o,none⟩=false:=fun o=>Rw.frozen_of A0.out;go_wp2_with fail
     obtain⟨A2,A3⟩:=HS.out;generalize World.setCell _ _ _=w9 at *;obtain⟨y0,y1,y2,y3⟩:=ae A2;refine bodyPost_ret (v:=.tuple #[.agg #[.int .i64 jop,.int .i64 jn,.string js,.slice jp jlen jc],.bool true]) (by simp[results,Tryz.results94,go_sem,y0,y1,y2,y3]) rfl ?_;have A1:=A6.out.trans (A3 w.heap.size (by omega));exact⟨A1,j,_,by rw[HF.out]; rfl,(jV.out.under A1).old,fun x h=>by rw[HF.out] at h; cases h; rfl⟩
    ·have j1:((2:Nat):Int)<(ln:Int):=by omega
     have j2:(2:Int)<(ln:Int):=by omega
     have j3:IntKind.i64.wrap (2 - 0)=2:=by decide
     simp only[Nat.reduceMul] at B0 A9 A8 A7;have HS:=aa (bh A0.out (.int .i64 jop) (.int .i64 jn) (.string js) (.slice jp jlen jc));obtain⟨r0,r1,r2,r3⟩:=ae A0.out;have f0:∀ o,w2.frozen? ⟨w.heap.size+1,o,none⟩=false:=fun o=>Rw.frozen_of A0.out;go_wp2_with fail
     obtain⟨A2,A3⟩:=HS.out;generalize World.setCell _ _ _=w9 at *;obtain⟨y0,y1,y2,y3⟩:=ae A2;refine bodyPost_ret (v:=.tuple #[.agg #[.int .i64 jop,.int .i64 jn,.string js,.slice jp jlen jc],.bool true]) (by simp[results,Tryz.results94,go_sem,y0,y1,y2,y3]) rfl ?_;have A1:=A6.out.trans (A3 w.heap.size (by omega));exact⟨A1,j,_,by rw[HF.out]; rfl,(jV.out.under A1).old,fun x h=>by rw[HF.out] at h; cases h; rfl⟩
  ·have HF:=aa (show Co.chosen t=none by rw[HD.out]; exact if_neg (fun h=>B1 h.2));have gk:(kop != 2)=true:=by simpa using B1
   clear B1 eK;rcases h with rfl|rfl
   ·skip
    have HS:=aa (bh A0.out (.int .i64 22) (.int .i64 n) (.string s) (.slice (some ⟨bl,off,none⟩) ln c));obtain⟨r0,r1,r2,r3⟩:=ae A0.out;have f0:∀ o,w2.frozen? ⟨w.heap.size+1,o,none⟩=false:=fun o=>Rw.frozen_of A0.out;go_wp2_with fail
    obtain⟨A2,A3⟩:=HS.out;generalize World.setCell _ _ _=w9 at *;obtain⟨y0,y1,y2,y3⟩:=ae A2;refine bodyPost_ret (v:=.tuple #[.agg #[.int .i64 22,.int .i64 n,.string s,.slice (some ⟨bl,off,none⟩) ln c],.bool false]) (by simp[results,Tryz.results94,go_sem,y0,y1,y2,y3]) rfl ?_;have A1:=A6.out.trans (A3 w.heap.size (by omega));exact⟨A1,t,_,by rw[HF.out]; rfl,(HV.out.under A1).old,fun x h=>by rw[HF.out] at h; cases h⟩
   ·skip
    have HS:=aa (bh A0.out (.int .i64 28) (.int .i64 n) (.string s) (.slice (some ⟨bl,off,none⟩) ln c));obtain⟨r0,r1,r2,r3⟩:=ae A0.out;have f0:∀ o,w2.frozen? ⟨w.heap.size+1,o,none⟩=false:=fun o=>Rw.frozen_of A0.out;go_wp2_with fail
    obtain⟨A2,A3⟩:=HS.out;generalize World.setCell _ _ _=w9 at *;obtain⟨y0,y1,y2,y3⟩:=ae A2;refine bodyPost_ret (v:=.tuple #[.agg #[.int .i64 28,.int .i64 n,.string s,.slice (some ⟨bl,off,none⟩) ln c],.bool false]) (by simp[results,Tryz.results94,go_sem,y0,y1,y2,y3]) rfl ?_;have A1:=A6.out.trans (A3 w.heap.size (by omega));exact⟨A1,t,_,by rw[HF.out]; rfl,(HV.out.under A1).old,fun x h=>by rw[HF.out] at h; cases h⟩
 ·have HF:=aa (show Co.chosen t=none by rw[HD.out]; exact if_neg (fun h'=>h h'.1));simp only[not_or] at h;have D5:(op != 22)=true:=by simpa using h.1
  have D4:(op != 28)=true:=by simpa using h.2
  clear h eK;have HS:=aa (bh A0.out (.int .i64 op) (.int .i64 n) (.string s) (.slice (some ⟨bl,off,none⟩) ln c));obtain⟨r0,r1,r2,r3⟩:=ae A0.out;have f0:∀ o,w2.frozen? ⟨w.heap.size+1,o,none⟩=false:=fun o=>Rw.frozen_of A0.out;go_wp2_with fail
  obtain⟨A2,A3⟩:=HS.out;generalize World.setCell _ _ _=w9 at *;obtain⟨y0,y1,y2,y3⟩:=ae A2;refine bodyPost_ret (v:=.tuple #[.agg #[.int .i64 op,.int .i64 n,.string s,.slice (some ⟨bl,off,none⟩) ln c],.bool false]) (by simp[results,Tryz.results94,go_sem,y0,y1,y2,y3]) rfl ?_;have A1:=A6.out.trans (A3 w.heap.size (by omega));exact⟨A1,t,_,by rw[HF.out]; rfl,(HV.out.under A1).old,fun x h=>by rw[HF.out] at h; cases h⟩
end
section
open Go.RowKit
open Rw
set_option maxRecDepth 100000
namespace Gf
def wt5 (x:Gen.Wt):List Value:=[.int .i64 x.entry,.int .i64 x.day,.string x.label,.int .i64 x.first,.int .i64 x.second]
def ix7 (x:Gen.Ix):List Value:=[.int .i64 x.op,.int .i64 x.a,.int .i64 x.b,.int .i64 x.c,.int .i64 x.n,.string x.s,.int .i64 x.to]
def pd (base:Nat)(w:World)(v:Value)(L:List Gen.Wt):Prop:=w.ownsRow base 76 5 v L.length (L.flatMap wt5)
def oo (base:Nat)(w:World)(v:Value)(L:List Gen.Ix):Prop:=w.ownsRow base 73 7 v L.length (L.flatMap ix7)
theorem zqs:(Tryz.prog.info? 76).map (fun i=>(i.zero,i.size,i.bytes))=some (some (.agg #[.int .i64 0,.int .i64 0,.string ⟨#[]⟩,.int .i64 0,.int .i64 0]),5,48):=by kernel_rfl
theorem znt:(Tryz.prog.info? 73).map (fun i=>(i.zero,i.size,i.bytes))=some (some (.agg #[.int .i64 0,.int .i64 0,.int .i64 0,.int .i64 0,.int .i64 0,.string ⟨#[]⟩,.int .i64 0]),7,64):=by kernel_rfl
theorem zjp:(Tryz.prog.info? 104).map (fun i=>(i.zero,i.size,i.bytes))=some (some (.agg #[.int .i64 0,.int .i64 0,.int .i64 0,.string ⟨#[]⟩,.slice none 0 0]),5,64):=by kernel_rfl
theorem zcq:(Tryz.prog.info? 1).map (fun i=>(i.zero,i.size,i.bytes))=some (some .nilFunc,1,8):=by kernel_rfl
structure Jb where
 j:Nat
 t:Co.T
 p:Option Addr
 c:Nat
def Jb.v (x:Jb):Value:=.agg #[.int .i64 x.t.op,.int .i64 x.t.n,.string x.t.s,.slice x.p x.t.ks.length x.c]
def jb5 (x:Jb):List Value:=[.int .i64 x.j,.int .i64 x.t.op,.int .i64 x.t.n,.string x.t.s,.slice x.p x.t.ks.length x.c]
def JbRow (base B:Nat)(w:World)(v:Value)(L:List (Nat × Co.T)):Prop:=∃ J:List Jb,L=J.map (fun x=>(x.j,x.t))∧gm w base 104 5 v J.length (J.flatMap jb5)∧∀ x∈J,CoreAt B w x.t x.v
theorem zmd {W:World}{base:Nat}{e:TypeId}{s n:Nat}{v:Value}{xs:List Value}(h:W.ownsRow base e s v n xs){g:Nat}(hg:v.ownBlock=some g)(j:Nat)(hj:j<xs.length)(u:Value):
  (W.setCell ⟨g,j,none⟩ u).ownsRow base e s v n (xs.set j u):=by
 refine⟨by rw[List.length_set]; exact h.1,?_⟩;rcases h.2 with⟨rfl,_⟩|⟨g',cap,cur,rfl,hb,hh,h1,h2,h3,h4⟩
 ·cases hg
 ·obtain rfl:g'=g:=Option.some.inj hg;refine .inr ⟨g',cap,cur.setIfInBounds j u,rfl,hb,heap_setCell_same W g' j _ _ u hh,h1,h2,by rw[Array.size_setIfInBounds]; exact h3,?_⟩;rw[Array.toList_setIfInBounds,List.take_set,h4]
theorem zdt {α:Type}(f:α→List Value)(g:α→α)(m j:Nat)(u:Value)(hm:∀ x,(f x).length=m)(hj:j<m)(hu:∀ x,f (g x)=(f x).set j u):
  ∀(L:List α) (i:Nat),i<L.length→(L.modify i g).flatMap f=(L.flatMap f).set (i * m+j) u
 | [],_,h=>by cases h
 |x::r,0,_=>by
  rw[List.modify_zero_cons,List.flatMap_cons,List.flatMap_cons,hu,Nat.zero_mul,Nat.zero_add,List.set_append_left _ _ (by rw[hm]; exact hj)]
 |x::r,i+1,h=>by
  have ih:=zdt f g m j u hm hj hu r i (by simpa using h);rw[List.modify_succ_cons,List.flatMap_cons,List.flatMap_cons,ih,show(i+1) * m+j=(f x).length+(i * m+j) by rw[hm,Nat.add_mul]; omega,List.set_append_right _ _ (by omega),Nat.add_sub_cancel_left]
theorem zbe {W:World}{base:Nat}{e:TypeId}{s n:Nat}{v:Value}{xs:List Value}(h:W.ownsRow base e s v n xs)(hn:0<n):∃ g c,v=.slice (some ⟨g,0,none⟩) n c∧v.ownBlock=some g∧base≤g∧n≤c∧∀ j u,xs[j]? = some u→W.cell? ⟨g,j,none⟩=some u:=by
 rcases h.2 with⟨_,h0⟩|⟨g,cap,cur,rfl,hb,hh,h1,h2,h3,h4⟩
 ·omega
 ·refine⟨g,cap,rfl,rfl,hb,h1,fun j u hu=>?_⟩
  have:=World.ownsRow.cells h (g:=g) rfl j u hu;rwa [add_gen,Nat.zero_add] at this
theorem zeo {W:World}{base:Nat}{e:TypeId}{s n:Nat}{v:Value}{xs:List Value}(h:W.ownsRow base e s v n xs){g:Nat}(hg:v.ownBlock=some g)(o:Nat):W.frozen? ⟨g,o,none⟩=false:=by
 rcases h.2 with⟨rfl,_⟩|⟨g',cap,cur,rfl,hb,hh,_⟩
 ·cases hg
 ·obtain rfl:g'=g:=Option.some.inj hg;exact frozen_of hh
theorem ei {W:World}{base z n:Nat}{t:TypeId}{v:Value}{xs:List Value}(h:W.ownsRow base t z v n xs){k:Nat}(hk:v.ownBlock=some k):base≤k∧∃ cur,W.heap[k]? = some (.cells cur t (0,0)):=by
 rcases h.2 with⟨rfl,_⟩|⟨g,cap,cur,rfl,hb,hc,_⟩
 ·cases hk
 ·obtain rfl:g=k:=Option.some.inj hk;exact⟨hb,cur,hc⟩
theorem se {W:World}{base z n:Nat}{t:TypeId}{v:Value}{xs:List Value}(h:gm W base t z v n xs){k:Nat}(hk:v.ownBlock=some k):base≤k∧∃ cur,W.heap[k]? = some (.cells cur t (0,0)):=by
 rcases h.2 with⟨rfl,_⟩|⟨g,o,cap,cur,rfl,hb,hc,_⟩
 ·cases hk
 ·obtain rfl:g=k:=Option.some.inj hk;exact⟨hb,cur,hc⟩
/-! What is known. -/
def ui (v:Val):Value:=.agg #[.int .i64 v.op,.int .i64 v.n,.string v.s,.int .i64 v.b,.int .i64 v.c]
structure ValOk (v:Val):Prop where
 op:I64 v.op
 n:I64 v.n
 s:v.s.size≤maxLen
 b:I64 v.b
 c:I64 v.c
theorem zuj:laidOutB Tryz.prog=true:=by kernel_rfl
theorem zye:(171:TypeId)<Tryz.prog.types.size:=of_decide_eq_true (by kernel_rfl)
theorem zwp:(match Tryz.prog.underlying 171 with|some (.array _ _)|some (.struct _)=>true|_=>false)=true:=by kernel_rfl
theorem zym:WideMaps.KeyLaw Tryz.prog 171:=deep_law_laid zuj (m:=6) (by omega) zye (by kernel_rfl) zwp
theorem keysVal:Maps.Keyed Tryz.prog 171:=Maps.Keyed.of_law zym
noncomputable def zc (v:Val):Lit:=(keyOf Tryz.prog 171 (ui v)).getD (.string [])
theorem zsn {n:Int}(h:I64 n):(Lit.int .i64 n).wf=true:=by
 unfold I64 at h;simp[Lit.wf,IntKind.min,IntKind.max,IntKind.signed,IntKind.bits];omega
theorem zle (d:Nat)(s:ByteArray)(hs:s.size≤maxLen):Tryz.prog.keyLits (d+1) 9 [.string s]=some [.string s.data.toList]:=by
 unfold Program.keyLits;rw[Tryz.underlying9];simp only[];rw[if_pos hs]
theorem xg (d:Nat)(n:Int)(h:I64 n):Tryz.prog.keyLits (d+1) 3 [.int .i64 n]=some [.int .i64 n]:=by
 unfold Program.keyLits;rw[Tryz.underlying3];simp only[];rw[if_pos ⟨by first|rfl|trivial,zsn h⟩]
theorem zhu (d:Nat)(n:Int)(h:I64 n):Tryz.prog.keyLits (d+1) 2 [.int .i64 n]=some [.int .i64 n]:=by
 unfold Program.keyLits;rw[Tryz.underlying2];simp only[];rw[if_pos ⟨by first|rfl|trivial,zsn h⟩]
theorem zkc:Tryz.prog.cellsOf 171=5:=by kernel_rfl
theorem zdh:Tryz.prog.cellsOf 9=1:=by kernel_rfl
theorem zkd:Tryz.prog.cellsOf 3=1:=by kernel_rfl
theorem zfg:Tryz.prog.cellsOf 2=1:=by kernel_rfl
theorem zot:0<Tryz.prog.types.size:=of_decide_eq_true (by kernel_rfl)
theorem zld (d:Nat)(v:Val)(h:ValOk v)(hd:0<d):Tryz.prog.keyLits (d+1) 171 (ui v).cells.toList=some [.int .i64 v.op,.int .i64 v.n,.string v.s.data.toList,.int .i64 v.b,.int .i64 v.c]:=by
 obtain⟨d,rfl⟩:∃ e,d=e+1:=⟨d - 1,by omega⟩
 have e:(ui v).cells.toList=[.int .i64 v.op,.int .i64 v.n,.string v.s,.int .i64 v.b,.int .i64 v.c]:=rfl;rw[e];unfold Program.keyLits;rw[Tryz.underlying171];simp only[zkc,zdh,zkd,zfg];rw[if_pos (by exact⟨rfl,by decide +kernel⟩)];simp[zdh,zkd,zfg,zle _ _ h.s,xg _ _ h.op,zhu _ _ h.n,xg _ _ h.b,xg _ _ h.c]
theorem yi {v:Val}(h:ValOk v):keyOf Tryz.prog 171 (ui v)=some (zc v):=by
 unfold zc;have h1:Tryz.prog.keyType 171=true:=by kernel_rfl
 have h2:Value.formed Tryz.prog 171 (ui v)=true:=by
  simp[Value.formed,ui,Tryz.underlying171,zkc]
 have h3:=zld _ v h zot;simp only[keyOf,Tryz.underlying171];rw[if_pos (by rw[h1,h2]; rfl),h3];rfl
theorem zsu {v v':Val}(h:ValOk v)(h':ValOk v')(e:zc v=zc v'):v=v':=by
 have h1:=yi h;have h2:=yi h';rw[←e] at h2
 have:=keysVal.inj h1 h2;simp[ui] at this;cases v; cases v';simp_all
theorem zlu {v:Val}(h:ValOk v):WideAt.IsKeyLit (zc v):=keysVal.key (yi h)
def knM (W:World)(b n:Nat)(D:DataW Unit):Prop:=W.ownsMap Tryz.prog 171 (plainElem Tryz.prog 3) b n D
def zzc (D:DataW Unit)(k:Val→Option Int):Prop:=∀ v,ValOk v→Maps.has D (zc v)=(k v).isSome∧∀ r,k v=some r→D.atKey (zc v) (.lit (.int .i64 0))=.lit (.int .i64 r)
def Kn (W:World)(b n:Nat)(k:Val→Option Int):Prop:=∃ D,knM W b n D∧zzc D k
theorem Kn.lt {W:World}{b n:Nat}{k:Val→Option Int}(h:Kn W b n k):b<W.heap.size:=by
 obtain⟨D,h,_⟩:=h;exact h.lt
theorem Kn.kept {W W':World}{b n:Nat}{k:Val→Option Int}{row:Option Nat}(h:Kn W b n k)(g:W.grownBy W' row)(A0:some b≠row):Kn W' b n k:=by
 obtain⟨D,h,hs⟩:=h;exact⟨D,h.kept g A0,hs⟩
theorem Kn.same {W W':World}{b n:Nat}{k:Val→Option Int}(h:Kn W b n k)(e:W'.heap[b]? = W.heap[b]?):Kn W' b n k:=by
 obtain⟨D,⟨es,clock,hb,F,hs,hD⟩,hk⟩:=h;exact⟨D,⟨es,clock,e.trans hb,F,hs,hD⟩,hk⟩
theorem Kn.made (w:World):Kn (w.alloc (.map #[] 0)) w.heap.size 0 rx:=
 ⟨.map [],World.ownsMap_made w _ _ _,fun v hv=>⟨rfl,fun r h=>by cases h⟩⟩
theorem Kn.look {W:World}{b n:Nat}{k:Val→Option Int}(h:Kn W b n k){v:Val}(hv:ValOk v):
  (Instr.lookup 64 (.map (some b)) (ui v) true).run Tryz.prog W=.ok (.tuple #[.int .i64 ((k v).getD 0),.bool (k v).isSome]) W:=by
 obtain⟨D,h,hs⟩:=h;obtain⟨u,ps,A1,hu⟩:=h.look_ok keysVal Tryz.underlying64 (z:=.int .i64 0) (zd:=.lit (.int .i64 0)) (zp:=[]) (by kernel_rfl) (plainElem_int Tryz.underlying3 (by decide)) (yi hv);obtain⟨c,rfl,hc, -⟩:=plainElem_int_inv Tryz.underlying3 hu;have A0:=congrArg Prod.fst hc;simp only at A0;obtain⟨h1,h2⟩:=hs v hv;rw[A1,h1];cases hk:k v with
 |none=>
  rw[hk] at h1;rw[Maps.atKey_of_not_has h1] at A0;cases A0;rfl
 |some r=>
  rw[h2 r hk] at A0;cases A0;rfl
open Classical in
theorem Kn.put {W:World}{b n:Nat}{m:Mk}(h:Kn W b n m.known)(hn:n<maxLen){v:Val}(hv:ValOk v){r:Int}(hr:I64 r):
  ∃ w',(Instr.mapUpdate 64 (.map (some b)) (ui v) (.int .i64 r)).run Tryz.prog W=.ok () w'∧Kn w' b (n+1) (m.put v r).known∧W.grownBy w' (some b):=by
 obtain⟨D,h,hs⟩:=h;obtain⟨w',h1,h2,h3⟩:=h.update keysVal Tryz.underlying64 hn (yi hv) (plainElem_int Tryz.underlying3 (zsn hr));refine⟨w',h1,⟨_,h2,fun x hx=>?_⟩,h3⟩;show _=(if x=v then some r else m.known x).isSome∧∀ r',(if x=v then some r else m.known x)=some r'→_
 by_cases e:x=v
 ·subst e;rw[if_pos rfl];refine⟨Maps.has_put_same h.isMap (zlu hx) _,fun r' e=>?_⟩;cases e;exact Maps.atKey_put_same h.isMap (zlu hx) _ _
 ·rw[if_neg e];have A0:zc x≠zc v:=fun e2=>e (zsu hx hv e2);rw[Maps.has_put_other A0,Maps.atKey_put_other A0];exact hs x hx
/-! The maker. -/
structure MkAt (mb:Nat)(sh:Bool)(m:Mk)(vw vi vj:Value)(kb:Nat)(W:World):Prop where
 box:W.heap[mb]? = some (.cells #[.int .i64 m.regs,vw,vi,.bool sh,vj,.int .i64 m.next,.map (some kb),.bool m.over] 66 (0,0))
 rw:pd (mb+1) W vw m.ws
 ri:oo (mb+1) W vi m.ins
 rj:JbRow (mb+1) mb W vj m.jobs
 kn:∃ n,n≤m.puts∧Kn W kb n m.known
 kb:mb<kb
def zic (i:Nat)(cs:Array Value)(k:Nat):Prop:=∀ v,cs[i]? = some v→v.ownBlock≠some k
def zki (i:Nat)(t:TypeId):Prop:=(i=4∧t=104)∨(i=1∧t=76)
structure KpG (mb kb:Nat)(ub:Option Nat)(W W':World):Prop where
 bel:Below mb W W'
 cel:∀(k:Nat) (cur:Array Value) (t:TypeId),k≠mb→(∀ u,ub=some u→k≠u∧t≠1)→t≠73→t≠76→t≠104→W.heap[k]? = some (.cells cur t (0,0))→W'.heap[k]? = W.heap[k]?
 map:∀(k:Nat) (es:Array MapEntry) (c:Nat),k≠kb→W.heap[k]? = some (.map es c)→W'.heap[k]? = W.heap[k]?
 own:∀(i:Nat) (t:TypeId),zki i t→∀(k:Nat) (cur cs:Array Value),W.heap[mb]? = some (.cells cs 66 (0,0))→zic i cs k→W.heap[k]? = some (.cells cur t (0,0)) →
  W'.heap[k]? = W.heap[k]? ∧ ∃ cs',W'.heap[mb]? = some (.cells cs' 66 (0,0))∧zic i cs' k
theorem KpG.refl (mb kb:Nat)(ub:Option Nat)(W:World):KpG mb kb ub W W:=⟨Below.refl _ _,fun _ _ _ _ _ _ _ _ _=>rfl,fun _ _ _ _ _=>rfl,fun i t _ k cur cs h1 h2 _=>⟨rfl,cs,h1,h2⟩⟩
theorem KpG.trans {mb kb kb':Nat}{ub:Option Nat}{A B C:World}(h:KpG mb kb ub A B)(k:KpG mb kb' ub B C)(hk:kb'=kb∨A.heap.size≤kb'):KpG mb kb ub A C:=by
 refine⟨h.bel.trans k.bel,fun j cur t h1 h2 h3 h4 h5 e=>?_,fun j es c h1 e=>?_,fun i t hi j cur cs h1 h2 e=>?_⟩
 ·have:=h.cel j cur t h1 h2 h3 h4 h5 e;exact(k.cel j cur t h1 h2 h3 h4 h5 (this.trans e)).trans this
 ·have:=h.map j es c h1 e;refine(k.map j es c (fun e2=>?_) (this.trans e)).trans this;rcases hk with rfl|hk
  ·exact h1 e2
  ·have:=af e;omega
 ·obtain⟨e1,A1,e2,e3⟩:=h.own i t hi j cur cs h1 h2 e;obtain⟨e4,A0,e5,e6⟩:=k.own i t hi j cur A1 e2 e3 (e1.trans e);exact⟨e4.trans e1,A0,e5,e6⟩
theorem KpG.of {mb kb:Nat}{ub:Option Nat}{W W':World}(h:Below W.heap.size W W')(hm:mb≤W.heap.size):KpG mb kb ub W W':=
 ⟨h.mono hm,fun k cur t _ _ _ _ _ e=>h.block k (af e),fun k es c _ e=>h.block k (af e),fun i t _ k cur cs h1 h2 e=>⟨h.block k (af e),cs,(h.block mb (af h1)).trans h1,h2⟩⟩
theorem KpG.wk {mb kb:Nat}{ub:Option Nat}{W W':World}(h:KpG mb kb none W W'):KpG mb kb ub W W':=
 ⟨h.bel,fun k cur t h1 _ h3 h4 h5 e=>h.cel k cur t h1 (fun u e=>by cases e) h3 h4 h5 e,h.map,h.own⟩
theorem KpG.box {mb kb:Nat}{ub:Option Nat}{W W':World}(h:KpG mb kb ub W W'){k:Nat}{cur:Array Value}{t:TypeId}(h1:k≠mb)(h2:∀ u,ub=some u→k≠u∧t≠1)(h3:t≠73)(h4:t≠76)(h5:t≠104)
  (e:W.heap[k]? = some (.cells cur t (0,0))):W'.heap[k]? = some (.cells cur t (0,0)):=(h.cel k cur t h1 h2 h3 h4 h5 e).trans e
theorem KpG.grow {mb kb:Nat}{ub:Option Nat}{W W':World}{row:Option Nat}(g:W.grownBy W' row){mcur:Array Value}(A0:W.heap[mb]? = some (.cells mcur 66 (0,0)))
  (hr:∀ k,row=some k→(k=kb∧mb<kb∧∃ es c,W.heap[k]? = some (.map es c))∨(mb<k∧∃ cur t,W.heap[k]? = some (.cells cur t (0,0))∧((t=73∨(∃ i,zki i t∧¬zic i mcur k))∨∃ u,ub=some u∧((k=u∧t≠104∧t≠76)∨t=1)))):
  KpG mb kb ub W W':=by
 have hm:=af A0;have hx:∀ k,k<W.heap.size→(∀ r,row=some r→k≠r)→W'.heap[k]? = W.heap[k]?:=fun k h1 h2=>g.block k h1 (fun e=>h2 k e.symm rfl);have A1:W'.heap[mb]? = W.heap[mb]?:=hx mb hm fun r er e2=>by
  subst e2;rcases hr mb er with⟨rfl,h,_⟩|⟨h,_⟩<;>omega
 refine⟨⟨g.os,g.tape,g.output,g.size,fun k hk=>hx k (Nat.lt_trans hk hm) fun r e e2=>?_⟩,fun k cur t h1 h2 h3 h4 h5 e=>hx k (af e) fun r er e2=>?_,fun k es c h1 e=>hx k (af e) fun r er e2=>?_,fun i t hi k cur cs h1 h2 e=>⟨hx k (af e) fun r er e2=>?_,cs,A1.trans h1,h2⟩⟩
 ·subst e2;rcases hr k e with⟨rfl,h,_⟩|⟨h,_⟩<;>omega
 ·subst e2;rcases hr k er with⟨rfl,_,es,c,e3⟩|⟨_,cur',t',e3,h6⟩
  ·rw[e] at e3; cases e3
  ·rw[e] at e3;simp only[Option.some.injEq,Obj.cells.injEq] at e3;obtain⟨-,rfl, -⟩:=e3;rcases h6 with(rfl|⟨i,(⟨-,rfl⟩|⟨-,rfl⟩), -⟩)|⟨u,hu,h7⟩
   ·exact h3 rfl
   ·exact h5 rfl
   ·exact h4 rfl
   ·obtain⟨h8,h9⟩:=h2 u hu;exact h7.elim (fun h=>h8 h.1) h9
 ·subst e2;rcases hr k er with⟨rfl,_⟩|⟨_,cur',t',e3,_⟩
  ·exact h1 rfl
  ·rw[e] at e3; cases e3
 ·subst e2;rcases hr k er with⟨rfl,_,es,c,e3⟩|⟨_,cur',t',e3,h6⟩
  ·rw[e] at e3; cases e3
  ·rw[e] at e3;simp only[Option.some.injEq,Obj.cells.injEq] at e3;obtain⟨-,rfl, -⟩:=e3;rw[A0] at h1;simp only[Option.some.injEq,Obj.cells.injEq,and_true] at h1;subst h1;rcases h6 with(h|⟨j,hj,h⟩)|⟨u,hu,h|h⟩
   ·rcases hi with⟨-,rfl⟩|⟨-,rfl⟩<;>exact absurd h (by decide)
   ·have:j=i:=by
     rcases hi with⟨rfl,rfl⟩|⟨rfl,rfl⟩<;>rcases hj with⟨rfl,h9⟩|⟨rfl,h9⟩<;>first|rfl|exact absurd h9 (by decide)
    subst this;exact h h2
   ·rcases hi with⟨-,rfl⟩|⟨-,rfl⟩
    ·exact h.2.1 rfl
    ·exact h.2.2 rfl
   ·rcases hi with⟨-,rfl⟩|⟨-,rfl⟩<;>exact absurd h (by decide)
end Gf
end
section
open Go.RowKit
open Rw
set_option maxRecDepth 100000
namespace Gf
section
variable {mb:Nat}{sh:Bool}{m m':Mk}{vw vi vj vw' vi' vj':Value}{kb kb':Nat}{W W':World}
theorem MkAt.lt (h:MkAt mb sh m vw vi vj kb W):mb<W.heap.size:=af h.box
theorem JbRow.kept {base:Nat}{v:Value}{L:List (Nat × Co.T)}{row:Option Nat}(h:JbRow base mb W v L)(g:W.grownBy W' row)(A0:v.ownBlock=none∨v.ownBlock≠row)(hb:Below mb W W'):JbRow base mb W' v L:=by
 obtain⟨J,h1,h2,h3⟩:=h;exact⟨J,h1,zbb h2 g A0,fun x hx=>(h3 x hx).kept hb (Nat.le_refl _)⟩
theorem ya {base z n:Nat}{t:TypeId}{v:Value}{xs:List Value}(h:W.ownsRow base t z v n xs){k:Nat}{cur:Array Value}{t':TypeId}(e:W.heap[k]? = some (.cells cur t' (0,0)))(ht:t≠t'):v.ownBlock=none∨v.ownBlock≠some k:=by
 refine .inr fun e2=>?_;obtain⟨-,A0,e3⟩:=ei h e2;rw[e] at e3;simp at e3;exact ht e3.2.symm
theorem zci {base z n:Nat}{t:TypeId}{v:Value}{xs:List Value}(h:gm W base t z v n xs){k:Nat}{cur:Array Value}{t':TypeId}(e:W.heap[k]? = some (.cells cur t' (0,0)))(ht:t≠t'):v.ownBlock=none∨v.ownBlock≠some k:=by
 refine .inr fun e2=>?_;obtain⟨-,A0,e3⟩:=se h e2;rw[e] at e3;simp at e3;exact ht e3.2.symm
theorem MkAt.below (h:MkAt mb sh m vw vi vj kb W)(b:Below W.heap.size W W'):MkAt mb sh m vw vi vj kb W':=by
 have hn:∀ v:Value,v.ownBlock=none∨v.ownBlock≠none:=fun v=>by cases hv:v.ownBlock<;>simp
 obtain⟨n,A1,A0⟩:=h.kn;exact⟨ag b h.box,World.ownsRow.kept h.rw (grown_of_below b none) (hn vw),World.ownsRow.kept h.ri (grown_of_below b none) (hn vi),h.rj.kept (grown_of_below b none) (hn vj) (b.mono (Nat.le_of_lt h.lt)),⟨n,A1,A0.kept (grown_of_below b none) (by simp)⟩,h.kb⟩
theorem MkAt.other (h:MkAt mb sh m vw vi vj kb W){k:Nat}(g:W.grownBy W' (some k)){cur:Array Value}{t:TypeId}(e:W.heap[k]? = some (.cells cur t (0,0)))(h1:mb<k)(h2:t≠73)(h3:t≠76)(h4:t≠104):MkAt mb sh m vw vi vj kb W':=by
 have hb:Below mb W W':=⟨g.os,g.tape,g.output,g.size,fun j hj=>g.block j (Nat.lt_trans hj h.lt) (fun e=>by cases e; omega)⟩
 obtain⟨n,A1,A0⟩:=h.kn;refine⟨box_grown g (by omega) h.box,World.ownsRow.kept h.rw g (ya h.rw e (Ne.symm h3)),World.ownsRow.kept h.ri g (ya h.ri e (Ne.symm h2)),?_,⟨n,A1,A0.kept g ?_⟩,h.kb⟩
 ·obtain⟨J,e1,e2,e3⟩:=h.rj;exact JbRow.kept ⟨J,e1,e2,e3⟩ g (zci e2 e (Ne.symm h4)) hb
 ·intro e2;cases e2;obtain⟨D,⟨es,clock,e3,_⟩,_⟩:=A0;rw[e] at e3;cases e3
theorem MkAt.reset {cs:Array Value}(o:Nat)(v:Value)(box:W.heap[mb]? = some (.cells cs 66 (0,0)))
  (A2:cs.setIfInBounds o v=#[.int .i64 m'.regs,vw',vi',.bool sh,vj',.int .i64 m'.next,.map (some kb'),.bool m'.over])
  (rw:pd (mb+1) W vw' m'.ws) (ri:oo (mb+1) W vi' m'.ins) (rj:JbRow (mb+1) mb W vj' m'.jobs) (kn:∃ n,n≤m'.puts∧Kn W kb' n m'.known) (hk:mb<kb'):
  MkAt mb sh m' vw' vi' vj' kb' (W.setCell ⟨mb,o,none⟩ v):=by
 have g:=grown_set W mb o v;obtain⟨n,A1,A0⟩:=kn;refine⟨by rw[heap_setCell_same W mb o _ _ v box,A2],World.ownsRow.kept rw g (.inr (mi rw (Nat.lt_succ_self _))),World.ownsRow.kept ri g (.inr (mi ri (Nat.lt_succ_self _))),?_,⟨n,A1,A0.kept g (fun e=>by cases e; omega)⟩,hk⟩;obtain⟨J,e1,e2,e3⟩:=rj;exact JbRow.kept ⟨J,e1,e2,e3⟩ g (.inr fun e=>by have:=(zcj e2 _ e).1; omega) ((Below.refl mb W).setCell (p:=⟨mb,o,none⟩) (Nat.le_refl _) v)
theorem zbr {cs:Array Value}{ub:Option Nat}(o:Nat)(v:Value)(box:W.heap[mb]? = some (.cells cs 66 (0,0)))(h4:∀ i,i=4∨i=1→(cs.setIfInBounds o v)[i]? = cs[i]?):KpG mb kb ub W (W.setCell ⟨mb,o,none⟩ v):=by
 have g:=grown_set W mb o v;have hx:∀ k,k<W.heap.size→k≠mb→(W.setCell ⟨mb,o,none⟩ v).heap[k]? = W.heap[k]?:=fun k h1 h2=>g.block k h1 (fun e=>h2 (by cases e; rfl));refine⟨⟨g.os,g.tape,g.output,g.size,fun k hk=>hx k (Nat.lt_trans hk (af box)) (by omega)⟩,fun k cur t h1 _ _ _ _ e=>hx k (af e) h1,fun k es c _ e=>hx k (af e) (fun e2=>by subst e2; rw[box] at e; cases e),fun i t hi k cur cs' h1 h2 e=>?_⟩;refine⟨hx k (af e) (fun e2=>by subst e2; rw[box] at e; simp at e; rcases hi with⟨-,rfl⟩|⟨-,rfl⟩<;>exact absurd e.2 (by decide)),_,heap_setCell_same W mb o _ _ v box,fun x hx=>?_⟩;rw[h4 i (hi.imp (fun h=>h.1) (fun h=>h.1))] at hx;rw[box] at h1;simp only[Option.some.injEq,Obj.cells.injEq,and_true] at h1;subst h1;exact h2 x hx
theorem MkAt.ins (h:MkAt mb sh m vw vi vj kb W){v':Value}{L:List Gen.Ix}(row:oo (mb+1) W' v' L)(g:W.grownBy W' vi.ownBlock):
  W'.heap[mb]? = some (.cells #[.int .i64 m.regs,vw,vi,.bool sh,vj,.int .i64 m.next,.map (some kb),.bool m.over] 66 (0,0))∧pd (mb+1) W' vw m.ws∧JbRow (mb+1) mb W' vj m.jobs∧(∃ n,n≤m.puts∧Kn W' kb n m.known)∧KpG mb kb none W W':=by
 have A1:vi.ownBlock≠some mb:=mi h.ri (Nat.lt_succ_self _);have hb:Below mb W W':=⟨g.os,g.tape,g.output,g.size,fun j hj=>g.block j (Nat.lt_trans hj h.lt) (fun e=>mi h.ri (by omega) e.symm)⟩
 obtain⟨n,A2,A0⟩:=h.kn;refine⟨(g.block mb h.lt (fun e=>A1 e.symm)).trans h.box,World.ownsRow.kept h.rw g (zen h.rw h.ri (by decide)),?_,⟨n,A2,A0.kept g ?_⟩,KpG.grow g h.box fun k hk=>?_⟩
 ·obtain⟨J,e1,e2,e3⟩:=h.rj;refine JbRow.kept ⟨J,e1,e2,e3⟩ g ?_ hb;rcases hv:vi.ownBlock with _|k
  ·cases hj:vj.ownBlock<;>simp
  ·obtain⟨-,cur,e4⟩:=ei h.ri hv;exact zci e2 e4 (by decide)
 ·intro e;obtain⟨-,cur,e4⟩:=ei h.ri e.symm;obtain⟨D,⟨es,clock,e3,_⟩,_⟩:=A0;rw[e4] at e3;cases e3
 ·obtain⟨h1,cur,e4⟩:=ei h.ri hk;exact .inr ⟨h1,cur,_,e4,.inl (.inl rfl)⟩
theorem MkAt.wts (h:MkAt mb sh m vw vi vj kb W){v':Value}{L:List Gen.Wt}(row:pd (mb+1) W' v' L)(g:W.grownBy W' vw.ownBlock):
  W'.heap[mb]? = some (.cells #[.int .i64 m.regs,vw,vi,.bool sh,vj,.int .i64 m.next,.map (some kb),.bool m.over] 66 (0,0))∧oo (mb+1) W' vi m.ins∧JbRow (mb+1) mb W' vj m.jobs∧(∃ n,n≤m.puts∧Kn W' kb n m.known)∧KpG mb kb none W W':=by
 have A1:vw.ownBlock≠some mb:=mi h.rw (Nat.lt_succ_self _);have hb:Below mb W W':=⟨g.os,g.tape,g.output,g.size,fun j hj=>g.block j (Nat.lt_trans hj h.lt) (fun e=>mi h.rw (by omega) e.symm)⟩
 obtain⟨n,A2,A0⟩:=h.kn;refine⟨(g.block mb h.lt (fun e=>A1 e.symm)).trans h.box,World.ownsRow.kept h.ri g (zen h.ri h.rw (by decide)),?_,⟨n,A2,A0.kept g ?_⟩,KpG.grow g h.box fun k hk=>?_⟩
 ·obtain⟨J,e1,e2,e3⟩:=h.rj;refine JbRow.kept ⟨J,e1,e2,e3⟩ g ?_ hb;rcases hv:vw.ownBlock with _|k
  ·cases hj:vj.ownBlock<;>simp
  ·obtain⟨-,cur,e4⟩:=ei h.rw hv;exact zci e2 e4 (by decide)
 ·intro e;obtain⟨-,cur,e4⟩:=ei h.rw e.symm;obtain⟨D,⟨es,clock,e3,_⟩,_⟩:=A0;rw[e4] at e3;cases e3
 ·obtain⟨h1,cur,e4⟩:=ei h.rw hk;exact .inr ⟨h1,cur,_,e4,.inl (.inr ⟨1,.inr ⟨rfl,rfl⟩,fun hn=>hn vw rfl hk⟩)⟩
theorem MkAt.jbs (h:MkAt mb sh m vw vi vj kb W)(g:W.grownBy W' vj.ownBlock):
  W'.heap[mb]? = some (.cells #[.int .i64 m.regs,vw,vi,.bool sh,vj,.int .i64 m.next,.map (some kb),.bool m.over] 66 (0,0))∧oo (mb+1) W' vi m.ins∧pd (mb+1) W' vw m.ws∧(∃ n,n≤m.puts∧Kn W' kb n m.known)∧KpG mb kb none W W':=by
 obtain⟨J,q1,q2,q3⟩:=h.rj;have A3:∀ k,vj.ownBlock=some k→mb+1≤k:=fun k e=>(zcj q2 _ e).1;obtain⟨n,A2,A0⟩:=h.kn;have A1:∀(t:TypeId) (z n:Nat) (v:Value) (xs:List Value),W.ownsRow (mb+1) t z v n xs→t≠104→v.ownBlock=none∨v.ownBlock≠vj.ownBlock:=by
  intro t z n v xs hr ht;rcases hv:vj.ownBlock with _|k
  ·cases hj:v.ownBlock<;>simp
  ·obtain⟨-,cur,e4⟩:=se q2 hv;exact ya hr e4 ht
 refine⟨(g.block mb h.lt (fun e=>by have:=A3 _ e.symm; omega)).trans h.box,World.ownsRow.kept h.ri g (A1 _ _ _ _ _ h.ri (by decide)),World.ownsRow.kept h.rw g (A1 _ _ _ _ _ h.rw (by decide)),⟨n,A2,A0.kept g ?_⟩,KpG.grow g h.box fun k hk=>?_⟩
 ·intro e;obtain⟨-,cur,e4⟩:=se q2 e.symm;obtain⟨D,⟨es,clock,e3,_⟩,_⟩:=A0;rw[e4] at e3;cases e3
 ·obtain⟨h1,cur,e4⟩:=se q2 hk;exact .inr ⟨h1,cur,_,e4,.inl (.inr ⟨4,.inl ⟨rfl,rfl⟩,fun hn=>hn vj rfl hk⟩)⟩
theorem MkAt.known (h:MkAt mb sh m vw vi vj kb W)(g:W.grownBy W' (some kb)){k:Val→Option Int}{n q:Nat}(hn:n≤q)(hk:Kn W' kb n k):MkAt mb sh { m with known:=k,puts:=q } vw vi vj kb W'∧KpG mb kb none W W':=by
 obtain⟨n', -,A1⟩:=h.kn;obtain⟨D,⟨es,clock,e3,_⟩,_⟩:=A1;have hb:Below mb W W':=⟨g.os,g.tape,g.output,g.size,fun j hj=>g.block j (Nat.lt_trans hj h.lt) (fun e=>by cases e; have:=h.kb; omega)⟩
 have A0:∀(t:TypeId) (z n:Nat) (v:Value) (xs:List Value),W.ownsRow (mb+1) t z v n xs→v.ownBlock=none∨v.ownBlock≠some kb:=by
  intro t z n v xs hr;refine .inr fun e=>?_;obtain⟨-,cur,e4⟩:=ei hr e;rw[e3] at e4;cases e4
 refine⟨⟨box_grown g (by have:=h.kb; omega) h.box,World.ownsRow.kept h.rw g (A0 _ _ _ _ _ h.rw),World.ownsRow.kept h.ri g (A0 _ _ _ _ _ h.ri),?_,⟨n,hn,hk⟩,h.kb⟩,KpG.grow g h.box fun k hk=>?_⟩
 ·obtain⟨J,e1,e2,e4⟩:=h.rj;refine JbRow.kept ⟨J,e1,e2,e4⟩ g (.inr fun e=>?_) hb;obtain⟨-,cur,e5⟩:=se e2 e;rw[e3] at e5;cases e5
 ·cases hk;exact .inl ⟨rfl,h.kb,es,clock,e3⟩
theorem zmj {ub:Option Nat}{cs:Array Value}{v v':Value}(o:Nat)(ho:o=4∨o=1)(k5:KpG mb kb ub W W')(b0:W.heap[mb]? = some (.cells cs 66 (0,0)))(b1:W'.heap[mb]? = some (.cells cs 66 (0,0)))(hc:cs.size=8)(A4:cs[o]? = some v)
  (hv:∀ k,v'.ownBlock=some k→v.ownBlock=some k∨W.heap.size≤k):KpG mb kb ub W (W'.setCell ⟨mb,o,none⟩ v'):=by
 have gs:=grown_set W' mb o v';have hx:∀ k,k<W'.heap.size→k≠mb→(W'.setCell ⟨mb,o,none⟩ v').heap[k]? = W'.heap[k]?:=fun k h1 h2=>gs.block k h1 (fun e=>h2 (by cases e; rfl));have A5:Below mb W' (W'.setCell ⟨mb,o,none⟩ v'):=(Below.refl mb W').setCell (p:=⟨mb,o,none⟩) (Nat.le_refl _) v';refine⟨k5.bel.trans A5,fun k cur t h1 h2 h3 h4 h5 e=>?_,fun k es c h1 e=>?_,fun i t hi k cur A6 h1 h2 e=>?_⟩
 ·have e1:=k5.cel k cur t h1 h2 h3 h4 h5 e;exact(hx k (af (e1.trans e)) h1).trans e1
 ·have e1:=k5.map k es c h1 e;exact(hx k (af (e1.trans e)) (fun e2=>by subst e2; rw[b0] at e; cases e)).trans e1
 ·obtain⟨e1,A7,e2,e3⟩:=k5.own i t hi k cur A6 h1 h2 e;refine⟨(hx k (af (e1.trans e)) (fun e4=>by subst e4; rw[b0] at e; simp at e; rcases hi with⟨-,rfl⟩|⟨-,rfl⟩<;>exact absurd e.2 (by decide))).trans e1,_,heap_setCell_same W' mb o _ _ v' b1,fun x A0=>?_⟩;rw[b0] at h1;simp only[Option.some.injEq,Obj.cells.injEq,and_true] at h1;subst h1;by_cases A1:o=i
  ·subst A1;have A3:o<cs.size:=by omega
   have A2:v'=x:=by simpa [A3] using A0
   subst A2;intro hk;rcases hv k hk with h5|h5
   ·exact h2 v A4 h5
   ·have:=af e; omega
  ·rw[Array.getElem?_setIfInBounds_ne A1] at A0;exact h2 x A0
theorem MkAt.push (h:MkAt mb sh m vw vi vj kb W)(g:W.grownBy W' vj.ownBlock){v':Value}(hv:∀ k,v'.ownBlock=some k→vj.ownBlock=some k∨W.heap.size≤k):KpG mb kb none W (W'.setCell ⟨mb,4,none⟩ v'):=by
 obtain⟨g1,g2,g3,g4,g5⟩:=h.jbs g;exact zmj 4 (.inl rfl) g5 h.box g1 rfl rfl hv
theorem MkAt.pushW (h:MkAt mb sh m vw vi vj kb W){L:List Gen.Wt}{v0:Value}(row:pd (mb+1) W' v0 L)(g:W.grownBy W' vw.ownBlock){v':Value}(hv:∀ k,v'.ownBlock=some k→vw.ownBlock=some k∨W.heap.size≤k):KpG mb kb none W (W'.setCell ⟨mb,1,none⟩ v'):=by
 obtain⟨g1,g2,g3,g4,g5⟩:=h.wts row g;exact zmj 1 (.inr rfl) g5 h.box g1 rfl rfl hv
end
structure Lays (mb kb:Nat)(ub:Option Nat)(sh:Bool)(m:Mk)(w w':World):Prop where
 at':∃ vw vi vj kb',MkAt mb sh m vw vi vj kb' w'∧(kb'=kb∨w.heap.size≤kb')
 kp:KpG mb kb ub w w'
theorem Lays.below {mb kb:Nat}{ub:Option Nat}{sh:Bool}{m:Mk}{A B C:World}(h:Lays mb kb ub sh m A B)(b:Below B.heap.size B C):Lays mb kb ub sh m A C:=by
 obtain⟨vw,vi,vj,kb',h1,h2⟩:=h.at';exact⟨⟨vw,vi,vj,kb',h1.below b,h2⟩,h.kp.trans (kb':=kb) (KpG.of b (Nat.le_of_lt h1.lt)) (.inl rfl)⟩
theorem Lays.wk {mb kb:Nat}{ub:Option Nat}{sh:Bool}{m:Mk}{A B:World}(h:Lays mb kb none sh m A B):Lays mb kb ub sh m A B:=⟨h.at',h.kp.wk⟩
theorem KpG.then {mb kb kb':Nat}{ub:Option Nat}{sh:Bool}{m:Mk}{A B C:World}(h:KpG mb kb ub A B)(hk:kb'=kb∨A.heap.size≤kb')(k:Lays mb kb' ub sh m B C):Lays mb kb ub sh m A C:=by
 obtain⟨vw,vi,vj,A0,h1,h2⟩:=k.at';refine⟨⟨vw,vi,vj,A0,h1,?_⟩,h.trans k.kp hk⟩;rcases h2 with rfl|h2
 ·exact hk
 ·exact .inr (Nat.le_trans h.bel.size h2)
theorem Lays.box {mb kb:Nat}{sh:Bool}{m:Mk}{W W':World}(h:Lays mb kb none sh m W W'){k:Nat}{cur:Array Value}{t:TypeId}(h1:k≠mb)(h3:t≠73)(h4:t≠76)(h5:t≠104)
  (e:W.heap[k]? = some (.cells cur t (0,0))):W'.heap[k]? = some (.cells cur t (0,0)):=h.kp.box h1 (fun u e=>by cases e) h3 h4 h5 e
def Own1 (mb i B:Nat)(cur:Array Value)(t:TypeId)(W:World):Prop:=zki i t∧W.heap[B]? = some (.cells cur t (0,0))∧∃ cs,W.heap[mb]? = some (.cells cs 66 (0,0))∧zic i cs B
theorem Own1.kp {mb kb i B:Nat}{ub:Option Nat}{cur:Array Value}{t:TypeId}{W W':World}(h:Own1 mb i B cur t W)(k:KpG mb kb ub W W'):Own1 mb i B cur t W':=by
 obtain⟨h1,h2,cs,h3,h4⟩:=h;obtain⟨e1,cs',e2,e3⟩:=k.own i t h1 B cur cs h3 h4 h2;exact⟨h1,e1.trans h2,cs',e2,e3⟩
theorem Own1.newJob {mb B:Nat}{sh:Bool}{m:Mk}{vw vi vj:Value}{kb:Nat}{cur:Array Value}{W:World}(h:MkAt mb sh m vw vi vj kb W)(e:W.heap[B]? = some (.cells cur 104 (0,0)))(hb:∀ k,vj.ownBlock=some k→k≠B):Own1 mb 4 B cur 104 W:=
 ⟨.inl ⟨rfl,rfl⟩,e,_,h.box,fun v hv hk=>by
  obtain rfl:vj=v:=by simpa using hv
  exact hb B hk rfl⟩
theorem Own1.newWait {mb B:Nat}{sh:Bool}{m:Mk}{vw vi vj:Value}{kb:Nat}{cur:Array Value}{W:World}(h:MkAt mb sh m vw vi vj kb W)(e:W.heap[B]? = some (.cells cur 76 (0,0)))(hb:∀ k,vw.ownBlock=some k→k≠B):Own1 mb 1 B cur 76 W:=
 ⟨.inr ⟨rfl,rfl⟩,e,_,h.box,fun v hv hk=>by
  obtain rfl:vw=v:=by simpa using hv
  exact hb B hk rfl⟩
end Gf
end
end Go.Proofs.YtanlmbbalamgkaaGreatDoor
