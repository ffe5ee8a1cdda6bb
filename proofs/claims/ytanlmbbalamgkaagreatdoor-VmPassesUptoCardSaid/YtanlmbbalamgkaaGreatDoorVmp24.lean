/- Proved: lemmas and contracts of the functions that the law reaches, part 24 of 35: DnPlain, DnChain, DnObs, GfFit, GfConP, GfWaitP, GfWl, GfJobs, GfJobs2, GfTot, GfGrow, GfExt, GfRunP, SmDen, SmCl, SmEqv, SmEqv2, GfUnk, SmRun, SmObs, SmObs2. Conditions: as each states. -/
import Derived.Test.YtanlmbbalamgkaaGreatDoorVmp20
import Derived.Test.YtanlmbbalamgkaaGreatDoorVmp22
namespace Go.Proofs.YtanlmbbalamgkaaGreatDoor
set_option linter.unusedVariables false
set_option linter.unusedSimpArgs false
section
open Go.RowKit
namespace Dn
open Co
structure Eyes where
 day:Int
 feed:ByteArray→Int→Option Int
def xh (F:List Fd.Feed)(day:Int):Eyes:=⟨day,fun s n=>Fd.tells F day s n⟩
def rk (op a b:Int):Int:=
 if op=7 then Num.add a b
 else if op=8 then Num.sub a b
 else if op=9 then Num.mul a b
 else if op=10 then Num.div a b
 else if op=11∨op=17 then tr (decide (a<b))
 else if op=12 then tr (decide (a≤b))
 else if op=13 then tr (decide (a=b))
 else if op=18 then Dt.plus a (Num.whole b)
 else if op=19 then Dt.months a (Num.whole b)
 else if op=20 then Dt.years a b
 else Dt.years30 a b
def second (op a:Int)(o:Option Int):Option Int:=match o with|none=>none|some b=>some (rk op a b)
def after (op a:Int)(vs:List (Option Int)):Option Int:=
 if op=6 then some (Num.neg a)
 else if op=14 then some (1 - a)
 else if(op=15∧a=0)∨(op=16∧a=1) then some a
 else if op=15∨op=16 then vs.getD 1 none
 else if op=22 then vs.getD (2 - a).toNat none
 else second op a (vs.getD 1 none)
def tf (op:Int)(o:Option Int)(vs:List (Option Int)):Option Int:=match o with|none=>none|some a=>after op a vs
def zmy (E:Eyes)(op n:Int)(s:ByteArray)(vs:List (Option Int)):Option Int:=
 if op=1∨op=2∨op=3 then some n
 else if op=4 then E.feed s n
 else if op=5 then some (Dt.plus E.day (-n))
 else tf op (vs.getD 0 none) vs
mutual
def value (E:Eyes):T→Option Int
 | .mk op n s ks=>zmy E op n s (sd E ks)
def sd (E:Eyes):List T→List (Option Int)
 | []=>[]
 |k::r=>value E k::sd E r
end
section
variable (E:Eyes)(n:Int)(s:ByteArray)(ks:List T)(a f:Int)
end
def zsj (E:Eyes):Prop:=∀ s n v,E.feed s n=some v → -1000000000000000≤v∧v≤1000000000000000
theorem zmn {F:List Fd.Feed}(h:Fd.Ok F)(day:Int):zsj (xh F day):=by
 intro s n v hv;have A0:Fd.tells F day s n=some v:=hv;unfold Fd.tells at A0;split at A0
 ·cases A0
 ·rename_i f hf;split at A0
  ·split at A0
   ·cases A0
   ·rename_i hu;have A1:=Fd.upto_le f.2 (day - n);have hk:f.2[Fd.upto f.2 (day - n) - 1]? = some (Fd.stampAt f.2 (Fd.upto f.2 (day - n) - 1)):=by
     unfold Fd.stampAt;rw[List.getElem?_eq_getElem (by omega)];rfl
    have:=((h.2 _ _ hf).stamps _ _ hk).num;obtain rfl:=Option.some.inj A0;rw[this];exact⟨Num.clamp_ge _,Num.clamp_le _⟩
  ·cases A0
def Ty (x:UInt8)(v:Int):Prop:=(x=98→v=0∨v=1)∧(x=100→0≤v∧v≤73048) ∧ -1000000000000000≤v∧v≤1000000000000000
theorem qi {v:Int}(h : -1000000000000000≤v∧v≤1000000000000000):Ty 110 v:=⟨fun e=>absurd e (by decide),fun e=>absurd e (by decide),h⟩
theorem zef {v:Int}(h:0≤v∧v≤73048):Ty 100 v:=⟨fun e=>absurd e (by decide),fun _=>h,by omega⟩
theorem xr {v:Int}(h:v=0∨v=1):Ty 98 v:=⟨fun _=>h,fun e=>absurd e (by decide),by omega⟩
theorem zze (b:Bool):tr b=0∨tr b=1:=by cases b<;>simp[tr]
theorem zhy (b:Bool):Ty 98 (tr b):=xr (zze b)
theorem qac (a b:Int):rk 7 a b=Num.add a b:=by unfold rk; simp only[Int.reduceEq,if_true,if_false,or_true,true_or,or_self,or_false,false_or,↓reduceIte]
theorem qab (a b:Int):rk 8 a b=Num.sub a b:=by unfold rk; simp only[Int.reduceEq,if_true,if_false,or_true,true_or,or_self,or_false,false_or,↓reduceIte]
theorem qaa (a b:Int):rk 9 a b=Num.mul a b:=by unfold rk; simp only[Int.reduceEq,if_true,if_false,or_true,true_or,or_self,or_false,false_or,↓reduceIte]
theorem zzo (a b:Int):rk 10 a b=Num.div a b:=by unfold rk; simp only[Int.reduceEq,if_true,if_false,or_true,true_or,or_self,or_false,false_or,↓reduceIte]
theorem zzn (a b:Int):rk 11 a b=tr (decide (a<b)):=by unfold rk; simp only[Int.reduceEq,if_true,if_false,or_true,true_or,or_self,or_false,false_or,↓reduceIte]
theorem zzm (a b:Int):rk 12 a b=tr (decide (a≤b)):=by unfold rk; simp only[Int.reduceEq,if_true,if_false,or_true,true_or,or_self,or_false,false_or,↓reduceIte]
theorem zzl (a b:Int):rk 13 a b=tr (decide (a=b)):=by unfold rk; simp only[Int.reduceEq,if_true,if_false,or_true,true_or,or_self,or_false,false_or,↓reduceIte]
theorem zzk (a b:Int):rk 17 a b=tr (decide (a<b)):=by unfold rk; simp only[Int.reduceEq,if_true,if_false,or_true,true_or,or_self,or_false,false_or,↓reduceIte]
theorem zzj (a b:Int):rk 18 a b=Dt.plus a (Num.whole b):=by unfold rk; simp only[Int.reduceEq,if_true,if_false,or_true,true_or,or_self,or_false,false_or,↓reduceIte]
theorem zzi (a b:Int):rk 19 a b=Dt.months a (Num.whole b):=by unfold rk; simp only[Int.reduceEq,if_true,if_false,or_true,true_or,or_self,or_false,false_or,↓reduceIte]
theorem zzh (a b:Int):rk 20 a b=Dt.years a b:=by unfold rk; simp only[Int.reduceEq,if_true,if_false,or_true,true_or,or_self,or_false,false_or,↓reduceIte]
theorem zzg (a b:Int):rk 21 a b=Dt.years30 a b:=by unfold rk; simp only[Int.reduceEq,if_true,if_false,or_true,true_or,or_self,or_false,false_or,↓reduceIte]
theorem zzf {op:Int}{l:List UInt8}{x:UInt8}(hw:de op=some (l,x))(h:7≤op∧op≤21∧op≠14∧op≠15∧op≠16)(a b:Int):Ty x (rk op a b):=by
 have hc:op=7∨op=8∨op=9∨op=10∨op=11∨op=12∨op=13∨op=17∨op=18∨op=19∨op=20∨op=21:=by omega
 clear h;rcases hc with rfl|rfl|rfl|rfl|rfl|rfl|rfl|rfl|rfl|rfl|rfl|rfl;all_goals
  simp only[want_7,want_8,want_9,want_10,want_11,want_12,want_13,want_17,want_18,want_19,want_20,want_21] at hw;cases hw
 ·rw[qac]; exact qi (add_in _ _)
 ·rw[qab]; exact qi (sub_in _ _)
 ·rw[qaa]; exact qi (mul_in _ _)
 ·rw[zzo]; exact qi (div_in _ _)
 ·rw[zzn]; exact zhy _
 ·rw[zzm]; exact zhy _
 ·rw[zzl]; exact zhy _
 ·rw[zzk]; exact zhy _
 ·rw[zzj]; exact zef (plus_in _ _)
 ·rw[zzi]; exact zef (months_in _ _)
 ·rw[zzh]; exact qi (years_in _ _)
 ·rw[zzg]; exact qi (years30_in _ _)
theorem ik {op:Int}{l:List UInt8}{x:UInt8}(hw:de op=some (l,x))(h:7≤op∧op≤21∧op≠14∧op≠15∧op≠16)(a:Int){vs:List (Option Int)}{v:Int}(hv:after op a vs=some v):Ty x v:=by
 unfold after second at hv;rw[if_neg (by omega),if_neg (by omega),if_neg (by omega),if_neg (by omega),if_neg (by omega)] at hv;split at hv
 ·cases hv
 ·obtain rfl:=Option.some.inj hv;exact zzf hw h a _
theorem zuk {ks:List T}{a:UInt8}(h:[a]=ks.map T.letter):∃ k,ks=[k]∧k.letter=a:=by
 match ks,h with
 | [k],h=>exact⟨k,rfl,by simpa using h.symm⟩
theorem zjj {ks:List T}{a b:UInt8}(h:[a,b]=ks.map T.letter):∃ k j,ks=[k,j]∧k.letter=a∧j.letter=b:=by
 match ks,h with
 | [k,j],h=>exact⟨k,j,rfl,by simpa using h.symm⟩
theorem lx (E:Eyes)(op n:Int)(s:ByteArray)(ks:List T):value E (.mk op n s ks)=zmy E op n s (sd E ks):=by rw[value]
theorem pe {E:Eyes}{op n:Int}{s:ByteArray}{ks:List T}(h:¬(op=1∨op=2∨op=3∨op=4∨op=5)):value E (.mk op n s ks)=tf op ((sd E ks).getD 0 none) (sd E ks):=by
 rw[lx,zmy,if_neg (by omega),if_neg (by omega),if_neg (by omega)]
theorem zih {E:Eyes}(hE:zsj E)(t:T):∀(x:UInt8) (v:Int),t.letter=x→x≠0→x≠99→value E t=some v→Ty x v:=by
 induction t using T.ind with|h op n s ks ih=>?_
 intro x v hx h0 A1 hv;by_cases A2:op=22
 ·subst A2;obtain⟨a,b,c,rfl,h1,h2,h3, -, -⟩:=(letter_22 (by rwa [hx])).1 rfl;rw[hx] at h2 h3;rw[pe (by omega)] at hv;unfold tf at hv;split at hv
  ·cases hv
  ·rename_i y hy;have A3:value E a=some y:=hy;rcases(ih a (by simp) 98 y h1 (by decide) (by decide) A3).1 rfl with rfl|rfl
   ·exact ih c (by simp) x v h3 h0 A1 hv
   ·exact ih b (by simp) x v h2 h0 A1 hv
 ·obtain⟨hw,hf⟩:=letter_inv hx h0 A2;have hr:=fields_range hf;rcases op_cases (want_in hw) with rfl|rfl|rfl|rfl|rfl|rfl|rfl|rfl|rfl|rfl|rfl|rfl|rfl|rfl|rfl|rfl|rfl|rfl|rfl|rfl|rfl|rfl|rfl|rfl|rfl|rfl|rfl|rfl|rfl|rfl|rfl;rotate_left 21
  ·exact absurd rfl A2
  all_goals try (exfalso; apply A1; simp only[want_23,want_24,want_25,want_26,want_27,want_28,want_29,want_30,want_31,Option.some.injEq,Prod.mk.injEq] at hw; exact hw.2.symm)
  ·obtain⟨-,rfl⟩:=Prod.mk.inj (Option.some.inj (want_1.symm.trans hw)); rw[lx] at hv; obtain rfl:=Option.some.inj (show some n=some v from hv); exact qi hr
  ·obtain⟨-,rfl⟩:=Prod.mk.inj (Option.some.inj (want_2.symm.trans hw)); rw[lx] at hv; obtain rfl:=Option.some.inj (show some n=some v from hv); exact xr (bool_of hf)
  ·obtain⟨-,rfl⟩:=Prod.mk.inj (Option.some.inj (want_3.symm.trans hw)); rw[lx] at hv; obtain rfl:=Option.some.inj (show some n=some v from hv); exact zef (sq (.inl rfl) hf)
  ·obtain⟨-,rfl⟩:=Prod.mk.inj (Option.some.inj (want_4.symm.trans hw)); rw[lx] at hv; exact qi (hE s n v hv)
  ·obtain⟨-,rfl⟩:=Prod.mk.inj (Option.some.inj (want_5.symm.trans hw)); rw[lx] at hv; obtain rfl:=Option.some.inj (show some (Dt.plus E.day (-n))=some v from hv); exact zef (plus_in _ _)
  all_goals
   rw[pe (by omega)] at hv;generalize A0:sd E ks=vs at hv;unfold tf at hv;split at hv
   ·cases hv
   rename_i y hy
  ·obtain⟨-,rfl⟩:=Prod.mk.inj (Option.some.inj (want_6.symm.trans hw)); obtain rfl:=Option.some.inj (show some (Num.neg y)=some v from hv); exact qi (neg_in y)
  ·exact ik hw (by omega) y hv
  ·exact ik hw (by omega) y hv
  ·exact ik hw (by omega) y hv
  ·exact ik hw (by omega) y hv
  ·exact ik hw (by omega) y hv
  ·exact ik hw (by omega) y hv
  ·exact ik hw (by omega) y hv
  ·obtain⟨hm,rfl⟩:=Prod.mk.inj (Option.some.inj (want_14.symm.trans hw));obtain⟨k,rfl,hk⟩:=zuk hm;rw[←A0] at hy
   have:=(ih k (by simp) 98 y hk (by decide) (by decide) hy).1 rfl;obtain rfl:=Option.some.inj (show some (1 - y)=some v from hv);exact xr (by omega)
  ·obtain⟨hm,rfl⟩:=Prod.mk.inj (Option.some.inj (want_15.symm.trans hw));obtain⟨k,j,rfl,hk,hj⟩:=zjj hm;rw[←A0] at hy hv;by_cases h:y=0
   ·subst h;obtain rfl:=Option.some.inj (show some 0=some v from hv);exact xr (.inl rfl)
   ·have h2:after 15 y (sd E [k,j])=value E j:=by unfold after; rw[if_neg (by omega),if_neg (by omega),if_neg (by omega),if_pos (.inl rfl)]; rfl
    rw[h2] at hv;exact ih j (by simp) 98 v hj (by decide) (by decide) hv
  ·obtain⟨hm,rfl⟩:=Prod.mk.inj (Option.some.inj (want_16.symm.trans hw));obtain⟨k,j,rfl,hk,hj⟩:=zjj hm;rw[←A0] at hy hv;by_cases h:y=1
   ·subst h;obtain rfl:=Option.some.inj (show some 1=some v from hv);exact xr (.inr rfl)
   ·have h2:after 16 y (sd E [k,j])=value E j:=by unfold after; rw[if_neg (by omega),if_neg (by omega),if_neg (by omega),if_pos (.inr rfl)]; rfl
    rw[h2] at hv;exact ih j (by simp) 98 v hj (by decide) (by decide) hv
  ·exact ik hw (by omega) y hv
  ·exact ik hw (by omega) y hv
  ·exact ik hw (by omega) y hv
  ·exact ik hw (by omega) y hv
  ·exact ik hw (by omega) y hv
end Dn
end
section
open Go.RowKit
namespace Dn
open Co
theorem zje {ks:List T}(h:([]:List UInt8)=ks.map T.letter):ks=[]:=by cases ks with|nil=>rfl|cons a r=>cases h
theorem zcn {ks:List T}{a:UInt8}(h:[a]=ks.map T.letter):∃ k,ks=[k]∧k.letter=a:=by
 match ks,h with
 | [k],h=>exact⟨k,rfl,by simpa using h.symm⟩
theorem fu {ks:List T}{a b:UInt8}(h:[a,b]=ks.map T.letter):∃ k j,ks=[k,j]∧k.letter=a∧j.letter=b:=by
 match ks,h with
 | [k,j],h=>exact⟨k,j,rfl,by simpa using h.symm⟩
theorem zqe {ks:List T}{a b c:UInt8}(h:[a,b,c]=ks.map T.letter):∃ k j i,ks=[k,j,i]∧k.letter=a∧j.letter=b∧i.letter=c:=by
 match ks,h with
 | [k,j,i],h=>exact⟨k,j,i,rfl,by simpa using h.symm⟩
theorem bz {op n:Int}{s:ByteArray}{ks:List T}(h:(T.mk op n s ks).letter=99):
  ((op=23∧ks=[])∨(op=24∧ks=[]))∨((op=25∨op=29)∧∃ k,ks=[k]∧k.letter=99)∨(op=26∧∃ o k,ks=[o,k]∧o.letter=110∧k.letter=99) ∨
  ((op=27∨op=31)∧∃ k j,ks=[k,j]∧k.letter=99∧j.letter=99)∨(op=28∧∃ o k j,ks=[o,k,j]∧o.letter=98∧k.letter=99∧j.letter=99)∨(op=30∧∃ o k,ks=[o,k]∧o.letter=98∧k.letter=99):=by
 have A0:op≠22:=by
  rintro rfl;obtain⟨_,_,_,_,_,_,_,h4,_⟩:=(letter_22 (x:=99) (by decide)).1 h;exact h4 rfl
 obtain⟨hw, -⟩:=letter_inv h (by decide) A0;rcases op_cases (want_in hw) with rfl|rfl|rfl|rfl|rfl|rfl|rfl|rfl|rfl|rfl|rfl|rfl|rfl|rfl|rfl|rfl|rfl|rfl|rfl|rfl|rfl|rfl|rfl|rfl|rfl|rfl|rfl|rfl|rfl|rfl|rfl;all_goals first|exact absurd rfl A0|skip
 all_goals simp only[want_1,want_2,want_3,want_4,want_5,want_6,want_7,want_8,want_9,want_10,want_11,want_12,want_13,want_14,want_15,want_16,want_17,want_18,want_19,want_20,want_21,want_22,want_23,want_24,want_25,want_26,want_27,want_28,want_29,want_30,want_31,Option.some.injEq,Prod.mk.injEq] at hw
 all_goals try exact absurd hw.2 (by decide)
 ·exact .inl (.inl ⟨rfl,zje hw.1⟩)
 ·exact .inl (.inr ⟨rfl,zje hw.1⟩)
 ·exact .inr (.inl ⟨.inl rfl,zcn hw.1⟩)
 ·exact .inr (.inr (.inl ⟨rfl,fu hw.1⟩))
 ·exact .inr (.inr (.inr (.inl ⟨.inl rfl,fu hw.1⟩)))
 ·exact .inr (.inr (.inr (.inr (.inl ⟨rfl,zqe hw.1⟩))))
 ·exact .inr (.inl ⟨.inr rfl,zcn hw.1⟩)
 ·exact .inr (.inr (.inr (.inr (.inr ⟨rfl,fu hw.1⟩))))
 ·exact .inr (.inr (.inr (.inl ⟨.inr rfl,fu hw.1⟩)))
section
variable {P:T→Int→Int→Prop}{t0:T}{a0:Int}
end
end Dn
end
section
open Go.RowKit
namespace Dn
open Co
def Obs (t:T):Prop:=t.letter≠0∧t.letter≠99
theorem dc {t:T}(h:t.letter=110):Obs t:=by unfold Obs; rw[h]; decide
theorem cf {t:T}(h:t.letter=98):Obs t:=by unfold Obs; rw[h]; decide
theorem gw {t:T}(h:t.letter=100):Obs t:=by unfold Obs; rw[h]; decide
def ct (op:Int):Prop:=7≤op∧op≤21∧op≠14∧op≠15∧op≠16
theorem cy {op n:Int}{s:ByteArray}{ks:List T}(h:Obs (.mk op n s ks)):
  (op=1∨op=2∨op=3)∨(op=4 ∧ -3660≤n∧n≤3660)∨(op=5 ∧ -3660≤n∧n≤3660)∨((op=6∨op=14)∧∃ k,ks=[k]∧Obs k∧(op=14→k.letter=98)) ∨
  ((op=15∨op=16)∧∃ k j,ks=[k,j]∧k.letter=98∧Obs j)∨(op=22∧∃ k j i,ks=[k,j,i]∧k.letter=98∧Obs j∧Obs i)∨(ct op∧∃ k j,ks=[k,j]∧Obs k∧Obs j):=by
 obtain⟨h0,A0⟩:=h;by_cases A1:op=22
 ·subst A1;obtain⟨a,b,c,rfl,h1,h2,h3,h4, -⟩:=(letter_22 h0).1 rfl;exact .inr (.inr (.inr (.inr (.inr (.inl ⟨rfl,a,b,c,rfl,h1,⟨by rw[h2]; exact h0,by rw[h2]; exact A0⟩,⟨by rw[h3]; exact h0,by rw[h3]; exact A0⟩⟩)))))
 ·obtain⟨hw,hf⟩:=letter_inv rfl h0 A1;generalize hx:(T.mk op n s ks).letter=x at *;rcases op_cases (want_in hw) with rfl|rfl|rfl|rfl|rfl|rfl|rfl|rfl|rfl|rfl|rfl|rfl|rfl|rfl|rfl|rfl|rfl|rfl|rfl|rfl|rfl|rfl|rfl|rfl|rfl|rfl|rfl|rfl|rfl|rfl|rfl;rotate_left 21
  ·exact absurd rfl A1
  all_goals try (exfalso; apply A0; simp only[want_23,want_24,want_25,want_26,want_27,want_28,want_29,want_30,want_31,Option.some.injEq,Prod.mk.injEq] at hw; exact hw.2.symm)
  all_goals simp only[want_1,want_2,want_3,want_4,want_5,want_6,want_7,want_8,want_9,want_10,want_11,want_12,want_13,want_14,want_15,want_16,want_17,want_18,want_19,want_20,want_21,Option.some.injEq,Prod.mk.injEq] at hw
  ·exact .inl (.inl rfl)
  ·exact .inl (.inr (.inl rfl))
  ·exact .inl (.inr (.inr rfl))
  ·refine .inr (.inl ⟨rfl,?_⟩);simp[fields,Gen.within] at hf;omega
  ·refine .inr (.inr (.inl ⟨rfl,?_⟩));simp[fields,Gen.within] at hf;omega
  ·obtain⟨k,hk,h⟩:=zcn hw.1;exact .inr (.inr (.inr (.inl ⟨.inl rfl,k,hk,dc h,fun e=>absurd e (by decide)⟩)))
  ·obtain⟨k,j,hk,h,h'⟩:=fu hw.1;exact .inr (.inr (.inr (.inr (.inr (.inr ⟨by unfold ct; omega,k,j,hk,by first|exact dc h|exact gw h,by first|exact dc h'|exact gw h'⟩)))))
  ·obtain⟨k,j,hk,h,h'⟩:=fu hw.1;exact .inr (.inr (.inr (.inr (.inr (.inr ⟨by unfold ct; omega,k,j,hk,by first|exact dc h|exact gw h,by first|exact dc h'|exact gw h'⟩)))))
  ·obtain⟨k,j,hk,h,h'⟩:=fu hw.1;exact .inr (.inr (.inr (.inr (.inr (.inr ⟨by unfold ct; omega,k,j,hk,by first|exact dc h|exact gw h,by first|exact dc h'|exact gw h'⟩)))))
  ·obtain⟨k,j,hk,h,h'⟩:=fu hw.1;exact .inr (.inr (.inr (.inr (.inr (.inr ⟨by unfold ct; omega,k,j,hk,by first|exact dc h|exact gw h,by first|exact dc h'|exact gw h'⟩)))))
  ·obtain⟨k,j,hk,h,h'⟩:=fu hw.1;exact .inr (.inr (.inr (.inr (.inr (.inr ⟨by unfold ct; omega,k,j,hk,by first|exact dc h|exact gw h,by first|exact dc h'|exact gw h'⟩)))))
  ·obtain⟨k,j,hk,h,h'⟩:=fu hw.1;exact .inr (.inr (.inr (.inr (.inr (.inr ⟨by unfold ct; omega,k,j,hk,by first|exact dc h|exact gw h,by first|exact dc h'|exact gw h'⟩)))))
  ·obtain⟨k,j,hk,h,h'⟩:=fu hw.1;exact .inr (.inr (.inr (.inr (.inr (.inr ⟨by unfold ct; omega,k,j,hk,by first|exact dc h|exact gw h,by first|exact dc h'|exact gw h'⟩)))))
  ·obtain⟨k,hk,h⟩:=zcn hw.1;exact .inr (.inr (.inr (.inl ⟨.inr rfl,k,hk,cf h,fun _=>h⟩)))
  ·obtain⟨k,j,hk,h,h'⟩:=fu hw.1;exact .inr (.inr (.inr (.inr (.inl ⟨.inl rfl,k,j,hk,h,cf h'⟩))))
  ·obtain⟨k,j,hk,h,h'⟩:=fu hw.1;exact .inr (.inr (.inr (.inr (.inl ⟨.inr rfl,k,j,hk,h,cf h'⟩))))
  ·obtain⟨k,j,hk,h,h'⟩:=fu hw.1;exact .inr (.inr (.inr (.inr (.inr (.inr ⟨by unfold ct; omega,k,j,hk,by first|exact dc h|exact gw h,by first|exact dc h'|exact gw h'⟩)))))
  ·obtain⟨k,j,hk,h,h'⟩:=fu hw.1;exact .inr (.inr (.inr (.inr (.inr (.inr ⟨by unfold ct; omega,k,j,hk,by first|exact dc h|exact gw h,by first|exact dc h'|exact gw h'⟩)))))
  ·obtain⟨k,j,hk,h,h'⟩:=fu hw.1;exact .inr (.inr (.inr (.inr (.inr (.inr ⟨by unfold ct; omega,k,j,hk,by first|exact dc h|exact gw h,by first|exact dc h'|exact gw h'⟩)))))
  ·obtain⟨k,j,hk,h,h'⟩:=fu hw.1;exact .inr (.inr (.inr (.inr (.inr (.inr ⟨by unfold ct; omega,k,j,hk,by first|exact dc h|exact gw h,by first|exact dc h'|exact gw h'⟩)))))
  ·obtain⟨k,j,hk,h,h'⟩:=fu hw.1;exact .inr (.inr (.inr (.inr (.inr (.inr ⟨by unfold ct; omega,k,j,hk,by first|exact dc h|exact gw h,by first|exact dc h'|exact gw h'⟩)))))
end Dn
end
section
open Go.RowKit
namespace Gf
open Co Gen Dn
def na:List (Nat × T)→Nat
 | []=>0
 |x::r=>(8 * x.2.size - 2)+na r
theorem zkt (a b:List (Nat × T)):na (a++b)=na a+na b:=by
 induction a with
 |nil=>simp[na]
 |cons x r ih=>rw[List.cons_append,na,na,ih]; omega
structure Fit (k:Nat)(m:Mk):Prop where
 len:m.ins.length+m.ws.length+na m.jobs≤k
 nx:0≤m.next∧m.next≤k
 rg:0≤m.regs∧m.regs≤k
 pt:m.puts≤k
 kn:∀ v r,m.known v=some r→0≤r∧r≤k
section
variable {k j:Nat}{m:Mk}
theorem Fit.mono (h:Fit k m)(hj:k≤j):Fit j m:=⟨by have:=h.len; omega,by have:=h.nx; omega,by have:=h.rg; omega,by have:=h.pt; omega,fun v r e=>by have:=h.kn v r e; omega⟩
theorem Fit.lay (h:Fit k m)(x:Ix):Fit (k+1) (m.lay x):=⟨by have:=h.len; simp[Mk.lay]; omega,(h.mono (Nat.le_succ k)).nx,(h.mono (Nat.le_succ k)).rg,(h.mono (Nat.le_succ k)).pt,(h.mono (Nat.le_succ k)).kn⟩
theorem Fit.reg (h:Fit k m):Fit (k+1) m.reg:=⟨(h.mono (Nat.le_succ k)).len,by have:=h.nx; simp[Mk.reg]; omega,by have:=h.nx; have:=h.rg; simp only[Mk.reg]; omega,(h.mono (Nat.le_succ k)).pt,(h.mono (Nat.le_succ k)).kn⟩
theorem Fit.here (h:Fit k m)(p:Nat):Fit k (m.here p):=⟨by have:=h.len; simp[Mk.here,toHere]; omega,h.nx,h.rg,h.pt,h.kn⟩
theorem Fit.back {m0:Mk}(h:Fit k m)(h0:Fit j m0)(hj:j≤k):Fit k (m.back m0.known):=⟨h.len,h.nx,h.rg,h.pt,(h0.mono hj).kn⟩
theorem Fit.free (h:Fit k m)(sh:Bool)(r:Int)(hr:0≤r∧r≤k):Fit k (m.free sh r):=by
 unfold Mk.free;split
 ·exact h
 ·exact⟨h.len,hr,h.rg,h.pt,h.kn⟩
theorem Fit.fresh (h:Fit k m):Fit k m.fresh:=⟨h.len,by simp[Mk.fresh],h.rg,h.pt,fun v r e=>by cases e⟩
theorem Fit.setW (h:Fit k m)(i:Nat)(f:Wt→Wt):Fit k (m.setW i f):=⟨by have:=h.len; simp[Mk.setW]; omega,h.nx,h.rg,h.pt,h.kn⟩
theorem Fit.fin (h:Fit k m):Fit (k+1) m.fin:=h.lay _
theorem Fit.call (h:Fit k m)(t:T):Fit (k+8 * t.size) (m.call t):=by
 have hs:=size_pos t;have hk:=h.mono (show k≤k+8 * t.size by omega);refine⟨?_,hk.nx,hk.rg,hk.pt,hk.kn⟩
 have:=h.len;simp[Mk.call,zkt,na];omega
open Classical in
theorem Fit.put (h:Fit k m)(v:Val){r:Int}(hr:0≤r∧r≤k):Fit (k+1) (m.put v r):=by
 have hk:=h.mono (Nat.le_succ k);refine⟨hk.len,hk.nx,hk.rg,by have:=h.pt; simp[Mk.put]; omega,fun x r' e=>?_⟩;have e':(if x=v then some r else m.known x)=some r':=e;split at e'
 ·cases e'; omega
 ·exact hk.kn x r' e'
structure FitO (k u:Nat)(o:Ob):Prop where
 m:Fit k o.2.1
 r:0≤o.1∧o.1≤k
 u:o.2.2.length≤u
theorem FitO.mono {k u j w:Nat}{o:Ob}(h:FitO k u o)(hk:k≤j)(hu:u≤w):FitO j w o:=⟨h.m.mono hk,by have:=h.r; omega,by have:=h.u; omega⟩
theorem qk (sh:Bool)(v:Val)(h:Fit k m)(u:List Nat):FitO (k+3) (u.length+1) (au sh v m u):=by
 unfold au;split
 ·rename_i r hr
  have:m.known v=some r:=by
   split at hr
   ·exact hr
   ·cases hr
  have hk:=h.kn v r this;exact⟨h.mono (by omega),by show 0≤r∧r≤_; omega,by simp⟩
 ·have hn:=h.nx;refine⟨((h.reg.lay _).put v ?_).mono (by omega),by show 0≤m.next∧m.next≤_; omega,?_⟩
  ·show 0≤m.next∧m.next≤_; omega
  ·show(if v.op=2 then u++[m.ins.length] else u).length≤_
   split<;>simp
theorem ey (sh:Bool){out:Int}{u:Nat}{o:Ob}(h:FitO k u o)(ho:0≤out∧out≤k):Fit (k+1) (aj sh out o).1∧(aj sh out o).2.length≤u:=
 ⟨(h.m.lay _).free sh _ (by omega),h.u⟩
end
theorem ay {op n:Int}{s:ByteArray}{a:T}{r:List T}:(T.mk op n s (a::r)).kid 0=a:=rfl
theorem bx {op n:Int}{s:ByteArray}{a b:T}{r:List T}:(T.mk op n s (a::b::r)).kid 1=b:=rfl
theorem ng {op n:Int}{s:ByteArray}{a b c:T}{r:List T}:(T.mk op n s (a::b::c::r)).kid 2=c:=rfl
theorem co (sh:Bool)(d:Nat):∀(t:T) (m:Mk) (u:List Nat) (k:Nat),Obs t→Fit k m→FitO (k+8 * t.size) (u.length+8 * t.size) (obs sh d t m u):=by
 induction d with
 |zero=>
  intro t m u k _ h;exact⟨h.mono (by omega),by show(0:Int)≤0∧(0:Int)≤_; omega,by show u.length≤_; omega⟩
 |succ d ih=>
  intro t m u k ht h;obtain⟨op,n,s,ks⟩:=t;have hz:(T.mk op n s ks).size=1+sizes ks:=by rw[T.size]
  have hn:=h.nx;rcases cy ht with h1|⟨rfl, -⟩|⟨rfl, -⟩|⟨h1,a,rfl,ha, -⟩|⟨h1,a,b,rfl,ha,hb⟩|⟨rfl,a,b,c,rfl,ha,hb,hc⟩|⟨h1,a,b,rfl,ha,hb⟩
  ·rw[px (t:=.mk op n s ks) h1]; exact(qk sh _ h u).mono (by omega) (by omega)
  ·rw[qx rfl]; exact(qk sh _ h u).mono (by omega) (by omega)
  ·rw[tu rfl]; exact(qk sh _ h u).mono (by omega) (by omega)
  ·have hs:(T.mk op n s [a]).size=1+a.size:=by rw[hz]; simp[sizes]
   rw[mj (by show 6≤op∧op≤21∧op≠15∧op≠16; omega)];unfold me;simp only[ay,T.ks,List.length_singleton,Nat.lt_irrefl,if_false];have fa:=ih a m u k ha h;rw[hs];split
   ·exact(qk sh _ fa.m _).mono (by omega) (by have:=fa.u; omega)
   ·exact⟨((fa.m.lay _).free sh _ (by omega)).mono (by omega),by have:=fa.r; show 0≤(obs sh d a m u).1∧(obs sh d a m u).1≤_; omega,by have:=fa.u; show(obs sh d a m u).2.2.length≤_; omega⟩
  ·have hs:(T.mk op n s [a,b]).size=1+(a.size+b.size):=by rw[hz]; simp[sizes]
   have fa:=ey sh (ih a m.reg u (k+1) (cf ha) h.reg) (out:=m.next) (by omega);rcases h1 with rfl|rfl
   ·rw[tv rfl];unfold chosen iq;simp only[ay,bx];generalize aj sh m.next (obs sh d a m.reg u)=A at *;have f1:=fa.1.lay (ix 19 0 m.next 0);have fb:=ey sh (ih b _ A.2 _ hb f1) (out:=m.next) (by omega);generalize aj sh m.next (obs sh d b (A.1.lay (ix 19 0 m.next 0)) A.2)=C at *;refine⟨(((fb.1.back f1 (by omega)).here _).free sh _ (by omega)).mono (by rw[hs]; omega),by show 0≤m.next∧m.next≤_; omega,?_⟩;show C.2.length≤_
    have:=fb.2
    have:=fa.2;rw[hs];omega
   ·rw[yd rfl];unfold chosen jy;simp only[ay,bx];generalize aj sh m.next (obs sh d a m.reg u)=A at *;have f1:=((fa.1.lay (ix 19 0 m.next 0)).lay (ix 20 0 0 0)).here A.1.ins.length;have fb:=ey sh (ih b _ A.2 _ hb f1) (out:=m.next) (by omega);generalize aj sh m.next (obs sh d b (((A.1.lay (ix 19 0 m.next 0)).lay (ix 20 0 0 0)).here A.1.ins.length) A.2)=C at *;refine⟨(((fb.1.back f1 (by omega)).here _).free sh _ (by omega)).mono (by rw[hs]; omega),by show 0≤m.next∧m.next≤_; omega,?_⟩;show C.2.length≤_
    have:=fb.2
    have:=fa.2;rw[hs];omega
  ·have hs:(T.mk 22 n s [a,b,c]).size=1+(a.size+(b.size+c.size)):=by rw[hz]; simp[sizes]
   have fa:=ey sh (ih a m.reg u (k+1) (cf ha) h.reg) (out:=m.next) (by omega);rw[yf rfl];unfold chosen jz;simp only[ay,bx,ng];generalize aj sh m.next (obs sh d a m.reg u)=A at *;have f1:=fa.1.lay (ix 19 0 m.next 0);have fb:=ey sh (ih b _ A.2 _ hb f1) (out:=m.next) (by omega);generalize aj sh m.next (obs sh d b (A.1.lay (ix 19 0 m.next 0)) A.2)=C at *;have f2:=((fb.1.back f1 (by omega)).lay (ix 20 0 0 0)).here A.1.ins.length;have fc:=ey sh (ih c _ C.2 _ hc f2) (out:=m.next) (by omega);generalize aj sh m.next (obs sh d c (((C.1.back (A.1.lay (ix 19 0 m.next 0)).known).lay (ix 20 0 0 0)).here A.1.ins.length) C.2)=F at *;refine⟨(((fc.1.back f2 (by omega)).here _).free sh _ (by omega)).mono (by rw[hs]; omega),by show 0≤m.next∧m.next≤_; omega,?_⟩;show F.2.length≤_
   have:=fc.2
   have:=fb.2
   have:=fa.2;rw[hs];omega
  ·have hs:(T.mk op n s [a,b]).size=1+(a.size+b.size):=by rw[hz]; simp[sizes]
   unfold ct at h1;rw[mj (by show 6≤op∧op≤21∧op≠15∧op≠16; omega)];unfold me;simp only[ay,bx,T.ks,List.length_cons,List.length_nil,show 1<0+1+1 by decide,if_true];have fa:=ih a m u k ha h;have fb:=ih b (obs sh d a m u).2.1 (obs sh d a m u).2.2 _ hb fa.m;have ua:=fa.u;have ub:=fb.u;rw[hs];split
   ·exact(qk sh _ fb.m _).mono (by omega) (by omega)
   ·exact⟨((fb.m.lay _).free sh _ (by omega)).mono (by omega),by have:=fa.r; show 0≤(obs sh d a m u).1∧(obs sh d a m u).1≤_; omega,by show(obs sh d b (obs sh d a m u).2.1 (obs sh d a m u).2.2).2.2.length≤_; omega⟩
end Gf
end
section
open Go.RowKit
namespace Gf
open Co Gen Dn
section
variable {sh:Bool}{d:Nat}{t:T}{m:Mk}
theorem ns (h:bp t=true):con sh (d+1) t m=m.call t:=by rw[con]; exact if_pos h
theorem nj (h:bp t=false)(ho:t.op=23):con sh (d+1) t m=m.free sh m.next:=by
 rw[con];refine(if_neg (by rw[h]; decide)).trans ?_;rw[show(if t.op=24 then m.lay ⟨27,0,0,0,0,t.s,0⟩ else _)=m from(if_neg (by omega)).trans ((if_neg (by omega)).trans ((if_neg (by omega)).trans ((if_neg (by omega)).trans (if_neg (by omega)))))]
theorem qf (h:bp t=false)(ho:t.op=24):con sh (d+1) t m=(m.lay ⟨27,0,0,0,0,t.s,0⟩).free sh m.next:=by
 rw[con];refine(if_neg (by rw[h]; decide)).trans ?_;rw[show(if t.op=24 then m.lay ⟨27,0,0,0,0,t.s,0⟩ else _)=m.lay ⟨27,0,0,0,0,t.s,0⟩ from if_pos ho]
theorem nr (h:bp t=false)(ho:t.op=25):con sh (d+1) t m=(con sh d (t.kid 0) (m.lay (ix 24 0 0 0))).free sh m.next:=by
 rw[con];refine(if_neg (by rw[h]; decide)).trans ?_;rw[show(if t.op=24 then m.lay ⟨27,0,0,0,0,t.s,0⟩ else _)=con sh d (t.kid 0) (m.lay (ix 24 0 0 0)) from(if_neg (by omega)).trans (if_pos ho)]
theorem nt (h:bp t=false)(ho:t.op=27):con sh (d+1) t m=(con sh d (t.kid 1) ((con sh d (t.kid 0) (m.reg.lay (ix 25 m.next 0 0))).lay (ix 26 0 m.next 0))).free sh m.next:=by
 rw[con];refine(if_neg (by rw[h]; decide)).trans ?_;rw[show(if t.op=24 then m.lay ⟨27,0,0,0,0,t.s,0⟩ else _)=con sh d (t.kid 1) ((con sh d (t.kid 0) (m.reg.lay (ix 25 m.next 0 0))).lay (ix 26 0 m.next 0)) from(if_neg (by omega)).trans ((if_neg (by omega)).trans (if_pos ho))]
theorem lj (h:bp t=false)(ho:t.op=26):con sh (d+1) t m=(con sh d (t.kid 1) ((obs sh d (t.kid 0) m []).2.1.lay (ix 23 0 (obs sh d (t.kid 0) m []).1 0))).free sh m.next:=by
 rw[con];refine(if_neg (by rw[h]; decide)).trans ?_;rw[show(if t.op=24 then m.lay ⟨27,0,0,0,0,t.s,0⟩ else _)=con sh d (t.kid 1) ((obs sh d (t.kid 0) m []).2.1.lay (ix 23 0 (obs sh d (t.kid 0) m []).1 0)) from(if_neg (by omega)).trans ((if_neg (by omega)).trans ((if_neg (by omega)).trans (if_pos ho)))]
theorem ss (h:bp t=false)(ho:t.op=28):con sh (d+1) t m=(either (con sh d) (obs sh d (t.kid 0) m []).1 t (obs sh d (t.kid 0) m []).2.1).free sh m.next:=by
 rw[con];refine(if_neg (by rw[h]; decide)).trans ?_;rw[show(if t.op=24 then m.lay ⟨27,0,0,0,0,t.s,0⟩ else _)=either (con sh d) (obs sh d (t.kid 0) m []).1 t (obs sh d (t.kid 0) m []).2.1 from(if_neg (by omega)).trans ((if_neg (by omega)).trans ((if_neg (by omega)).trans ((if_neg (by omega)).trans (if_pos ho))))]
end
theorem mx {t:T}(h:bp t=false):t.op≠29∧t.op≠30∧t.op≠31∧(t.op=26∨t.op=28→cr (t.kid 0)=false):=by
 unfold bp at h;split at h
 ·cases h
 ·rename_i h1;simp only[not_or] at h1;refine⟨h1.1,h1.2.1,h1.2.2,fun e=>?_⟩;rw[if_pos e] at h;exact h
theorem tm {con:T→Mk→Mk}{t:T}{k:Nat}{m:Mk}(r:Int)(h:Fit k m)(h1:∀ k m,Fit k m→Fit (k+8 * (t.kid 1).size) (con (t.kid 1) m))(h2:∀ k m,Fit k m→Fit (k+8 * (t.kid 2).size) (con (t.kid 2) m)):
  Fit (k+2+8 * (t.kid 1).size+8 * (t.kid 2).size) (either con r t m):=by
 unfold either;have f1:=h.lay (ix 19 0 r 0);have f2:=(h1 _ _ f1).back f1 (by omega);have f3:=(f2.lay (ix 20 0 0 0)).here m.ins.length;have f4:=(h2 _ _ f3).back f3 (by omega);exact(f4.here _).mono (by omega)
theorem cx (sh:Bool)(d:Nat):∀(t:T) (m:Mk) (k:Nat),t.letter=99→Fit k m→Fit (k+8 * t.size) (con sh d t m):=by
 induction d with
 |zero=>intro t m k _ h; exact h.mono (by omega)
 |succ d ih=>
  intro t m k hx h;have hn:=h.nx;cases hw:bp t with
  |true=>rw[ns hw]; exact h.call t
  |false=>
   obtain⟨op,n,s,ks⟩:=t;have hz:(T.mk op n s ks).size=1+sizes ks:=by rw[T.size]
   obtain⟨w1,w2,w3,w4⟩:=mx hw;rcases bz hx with(⟨rfl,rfl⟩|⟨rfl,rfl⟩)|⟨h1,a,rfl,ha⟩|⟨rfl,o,a,rfl,ho,ha⟩|⟨h1,a,b,rfl,ha,hb⟩|⟨rfl,o,a,b,rfl,ho,ha,hb⟩|⟨rfl,o,a,rfl,ho,ha⟩
   ·rw[nj hw rfl]; exact(h.free sh _ hn).mono (by omega)
   ·rw[qf hw rfl]; exact((h.lay _).free sh _ (by omega)).mono (by omega)
   ·rcases h1 with rfl|rfl
    ·rw[nr hw rfl,ay];have hs:(T.mk 25 n s [a]).size=1+a.size:=by rw[hz]; simp[sizes]
     exact((ih a _ _ ha (h.lay _)).free sh _ (by omega)).mono (by omega)
    ·exact absurd rfl w1
   ·rw[lj hw rfl,ay,bx];have hs:(T.mk 26 n s [o,a]).size=1+(o.size+a.size):=by rw[hz]; simp[sizes]
    have fo:=co sh d o m [] k (dc ho) h;exact((ih a _ _ ha (fo.m.lay _)).free sh _ (by omega)).mono (by omega)
   ·rcases h1 with rfl|rfl
    ·rw[nt hw rfl,ay,bx];have hs:(T.mk 27 n s [a,b]).size=1+(a.size+b.size):=by rw[hz]; simp[sizes]
     exact((ih b _ _ hb ((ih a _ _ ha (h.reg.lay _)).lay _)).free sh _ (by omega)).mono (by omega)
    ·exact absurd rfl w3
   ·rw[ss hw rfl,ay];have hs:(T.mk 28 n s [o,a,b]).size=1+(o.size+(a.size+b.size)):=by rw[hz]; simp[sizes]
    have fo:=co sh d o m [] k (cf ho) h;have fe:=tm (con:=con sh d) (t:=.mk 28 n s [o,a,b]) (obs sh d o m []).1 fo.m (fun k m h=>ih a m k ha h) (fun k m h=>ih b m k hb h);rw[bx,ng] at fe;exact(fe.free sh _ (by omega)).mono (by omega)
   ·exact absurd rfl w2
theorem zdx (sh:Bool)(d:Nat):∀(t:T) (m:Mk),m.puts≤(con sh d t m).puts∧m.ins.length≤(con sh d t m).ins.length:=by
 induction d with
 |zero=>intro t m; exact⟨Nat.le_refl _,Nat.le_refl _⟩
 |succ d ih=>
  intro t m;have he:∀(r:Int) (m:Mk),m.puts≤(either (con sh d) r t m).puts∧m.ins.length≤(either (con sh d) r t m).ins.length:=by
   intro r m;unfold either;simp only[ak,ao];have h1:=ih (t.kid 1) (m.lay (ix 19 0 r 0));rw[ah] at h1;generalize con sh d (t.kid 1) (m.lay (ix 19 0 r 0))=C at *;have h2:=ih (t.kid 2) (((C.back (m.lay (ix 19 0 r 0)).known).lay (ix 20 0 0 0)).here m.ins.length);rw[ak,ah,ao] at h2;exact⟨Nat.le_trans h1.1 h2.1,by omega⟩
  rw[con];split
  ·exact⟨Nat.le_refl _,by show m.ins.length≤(m.ins++[_]).length; simp⟩
  ·rw[sk,df];split
   ·rw[ah]; exact⟨Nat.le_refl _,by omega⟩
   split
   ·have h1:=ih (t.kid 0) (m.lay (ix 24 0 0 0));rw[ah] at h1;exact⟨h1.1,by omega⟩
   split
   ·have h1:=ih (t.kid 0) (m.reg.lay (ix 25 m.next 0 0));rw[ah,nz] at h1;generalize con sh d (t.kid 0) (m.reg.lay (ix 25 m.next 0 0))=C at *;have h2:=ih (t.kid 1) (C.lay (ix 26 0 m.next 0));rw[ah] at h2;exact⟨Nat.le_trans h1.1 h2.1,by omega⟩
   split
   ·simp only;have h1:=pf sh d (t.kid 0) m [];have A0:=bm sh d (t.kid 0) m [];have h2:=ih (t.kid 1) ((obs sh d (t.kid 0) m []).2.1.lay (ix 23 0 (obs sh d (t.kid 0) m []).1 0));rw[ah] at h2;exact⟨Nat.le_trans h1 h2.1,by omega⟩
   split
   ·simp only;have h1:=pf sh d (t.kid 0) m [];have A0:=bm sh d (t.kid 0) m [];have h2:=he (obs sh d (t.kid 0) m []).1 (obs sh d (t.kid 0) m []).2.1;exact⟨Nat.le_trans h1 h2.1,by omega⟩
   ·exact⟨Nat.le_refl _,Nat.le_refl _⟩
end Gf
end
section
open Go.RowKit
namespace Gf
open Co Gen Dn
theorem zdd {k:Nat}:∀(l:List Nat) (m:Mk),Fit k m→Fit k (hereAll m l)
 | [],_,h=>h
 |p::r,m,h=>zdd r (m.here p) (h.here p)
theorem wu {k:Nat}{m:Mk}(j:Nat)(l:List Nat)(h:Fit k m):Fit (k+3) (again j m l):=by
 unfold again;exact(((zdd l _ (h.setW j _).fin).lay _).fin).mono (by omega)
theorem zua {k:Nat}{m:Mk}(sh:Bool)(j:Nat)(t:T)(h:Fit k m)(h1:(t.kid 0).letter=99)(h2:(t.kid 1).letter=99):Fit (k+6+8 * (t.kid 0).size+8 * (t.kid 1).size) (wy sh j t m):=by
 unfold wy;have fa:=((h.lay (ix 21 0 0 t.n)).lay (ix 28 0 0 j)).fin;have fb:=(((cx sh 200 (t.kid 0) _ _ h1 (fa.lay (ix 21 0 0 t.n))).fin.here m.ins.length).here (((m.lay (ix 21 0 0 t.n)).lay (ix 28 0 0 j)).fin).ins.length)
 have fc:=(cx sh 200 (t.kid 1) _ _ h2 fb.fresh).fin;exact(fc.setW j _).mono (by omega)
def waitIn (j:Nat)(m:Mk):Mk:=(m.setW j fun w=>{ w with entry:=m.ins.length }).fresh
section
variable {sh:Bool}{j:Nat}{t:T}{m:Mk}
theorem kg (h:t.op=29):wait sh j t m=again j (con sh 200 (t.kid 0) (((waitIn j m).setW j fun w=>{ w with day:=t.n }).lay (ix 22 0 0 t.n))) [(waitIn j m).ins.length]:=by
 unfold wait;exact if_pos h
theorem ii (h:t.op=30):wait sh j t m=again j ((con sh 200 (t.kid 1) ((obs sh 200 (t.kid 0) (((waitIn j m).setW j fun w=>{ w with day:=t.n+1 }).lay (ix 21 0 0 t.n)) []).2.1.lay (ix 19 0 (obs sh 200 (t.kid 0) (((waitIn j m).setW j fun w=>{ w with day:=t.n+1 }).lay (ix 21 0 0 t.n)) []).1 0))).here (waitIn j m).ins.length)
  ((obs sh 200 (t.kid 0) (((waitIn j m).setW j fun w=>{ w with day:=t.n+1 }).lay (ix 21 0 0 t.n)) []).2.2++[(obs sh 200 (t.kid 0) (((waitIn j m).setW j fun w=>{ w with day:=t.n+1 }).lay (ix 21 0 0 t.n)) []).2.1.ins.length]):=by
 unfold wait;exact(if_neg (by omega)).trans (if_pos h)
theorem fx (h:t.op=26):wait sh j t m=again j (con sh 200 (t.kid 1) ((obs sh 200 (t.kid 0) (waitIn j m) []).2.1.lay (ix 23 0 (obs sh 200 (t.kid 0) (waitIn j m) []).1 0))) (obs sh 200 (t.kid 0) (waitIn j m) []).2.2:=by
 unfold wait;exact(if_neg (by omega)).trans ((if_neg (by omega)).trans (if_pos h))
theorem kf (h:t.op=28):wait sh j t m=again j (either (con sh 200) (obs sh 200 (t.kid 0) (waitIn j m) []).1 t (obs sh 200 (t.kid 0) (waitIn j m) []).2.1) (obs sh 200 (t.kid 0) (waitIn j m) []).2.2:=by
 unfold wait;exact(if_neg (by omega)).trans ((if_neg (by omega)).trans ((if_neg (by omega)).trans (if_pos h)))
theorem ij (h:t.op=31):wait sh j t m=wy sh j t (waitIn j m):=by
 unfold wait;exact(if_neg (by omega)).trans ((if_neg (by omega)).trans ((if_neg (by omega)).trans ((if_neg (by omega)).trans (if_pos h))))
end
theorem bv {op n:Int}{s:ByteArray}{ks:List T}(h:op=23∨op=24∨op=25∨op=27):bp (.mk op n s ks)=false:=by
 unfold bp;exact(if_neg (by show ¬(op=29∨op=30∨op=31); omega)).trans (if_neg (by show ¬(op=26∨op=28); omega))
theorem zss {k:Nat}{m:Mk}(sh:Bool)(j:Nat)(t:T)(h:Fit k m)(hx:t.letter=99)(hw:bp t=true):Fit (k+(8 * t.size - 2)) (wait sh j t m):=by
 obtain⟨op,n,s,ks⟩:=t;have hz:(T.mk op n s ks).size=1+sizes ks:=by rw[T.size]
 have h0:Fit k (waitIn j m):=(h.setW j _).fresh;rcases bz hx with(⟨rfl,rfl⟩|⟨rfl,rfl⟩)|⟨h1,a,rfl,ha⟩|⟨rfl,o,a,rfl,ho,ha⟩|⟨h1,a,b,rfl,ha,hb⟩|⟨rfl,o,a,b,rfl,ho,ha,hb⟩|⟨rfl,o,a,rfl,ho,ha⟩
 ·rw[bv (by omega)] at hw; cases hw
 ·rw[bv (by omega)] at hw; cases hw
 ·rcases h1 with rfl|rfl
  ·rw[bv (by omega)] at hw; cases hw
  ·have hs:(T.mk 29 n s [a]).size=1+a.size:=by rw[hz]; simp[sizes]
   rw[kg rfl,ay];exact(wu j _ (cx sh 200 a _ _ ha ((h0.setW j _).lay _))).mono (by omega)
 ·have hs:(T.mk 26 n s [o,a]).size=1+(o.size+a.size):=by rw[hz]; simp[sizes]
  rw[fx rfl,ay,bx];have fo:=co sh 200 o _ [] _ (dc ho) h0;exact(wu j _ (cx sh 200 a _ _ ha (fo.m.lay _))).mono (by omega)
 ·rcases h1 with rfl|rfl
  ·rw[bv (by omega)] at hw; cases hw
  ·have hs:(T.mk 31 n s [a,b]).size=1+(a.size+b.size):=by rw[hz]; simp[sizes]
   rw[ij rfl];exact(zua sh j (T.mk 31 n s [a,b]) h0 ha hb).mono (by rw[ay,bx]; omega)
 ·have hs:(T.mk 28 n s [o,a,b]).size=1+(o.size+(a.size+b.size)):=by rw[hz]; simp[sizes]
  rw[kf rfl,ay];have fo:=co sh 200 o _ [] _ (cf ho) h0;have fe:=tm (con:=con sh 200) (t:=.mk 28 n s [o,a,b]) (obs sh 200 o (waitIn j m) []).1 fo.m (fun k m h=>cx sh 200 a m k ha h) (fun k m h=>cx sh 200 b m k hb h);rw[bx,ng] at fe;exact(wu j _ fe).mono (by omega)
 ·have hs:(T.mk 30 n s [o,a]).size=1+(o.size+a.size):=by rw[hz]; simp[sizes]
  rw[ii rfl,ay,bx];have fo:=co sh 200 o _ [] _ (cf ho) ((h0.setW j fun w=>{ w with day:=n+1 }).lay (ix 21 0 0 n));exact(wu j _ ((cx sh 200 a _ _ ha (fo.m.lay _)).here _)).mono (by omega)
end Gf
end
section
open Go.RowKit
namespace Gf
open Co Gen Dn
theorem zxm (sh:Bool)(out:Int)(o:Ob):(aj sh out o).1.ws.length=o.2.1.ws.length:=by
 unfold aj Mk.free;cases sh<;>rfl
theorem vz (sh:Bool)(v:Val)(m:Mk)(u:List Nat):m.ws.length≤(au sh v m u).2.1.ws.length:=by
 unfold au;split
 ·exact Nat.le_refl _
 ·exact Nat.le_refl _
theorem yj (m:Mk)(sh:Bool)(r:Int):(m.free sh r).ws.length=m.ws.length:=by unfold Mk.free; cases sh<;>rfl
theorem zbh (sh:Bool)(d:Nat):∀(t:T) (m:Mk) (u:List Nat),m.ws.length≤(obs sh d t m u).2.1.ws.length:=by
 induction d with
 |zero=>intro t m u; exact Nat.le_refl _
 |succ d ih=>
  intro t m u;rw[obs];split
  ·exact vz _ _ _ _
  split
  ·exact vz _ _ _ _
  split
  ·exact vz _ _ _ _
  have hi:∀(t:T) (m:Mk) (u:List Nat) (out:Int),m.ws.length≤(aj sh out (obs sh d t m u)).1.ws.length:=fun t m u out=>by rw[zxm]; exact ih t m u
  split
  ·unfold chosen iq;simp only;rw[yj];have h1:=hi (t.kid 0) m.reg u m.next;generalize aj sh m.next (obs sh d (t.kid 0) m.reg u)=A at *;exact Nat.le_trans h1 (hi (t.kid 1) (A.1.lay (ix 19 0 m.next 0)) A.2 m.next)
  split
  ·unfold chosen jy;simp only;rw[yj];have h1:=hi (t.kid 0) m.reg u m.next;generalize aj sh m.next (obs sh d (t.kid 0) m.reg u)=A at *;exact Nat.le_trans h1 (hi (t.kid 1) (((A.1.lay (ix 19 0 m.next 0)).lay (ix 20 0 0 0)).here A.1.ins.length) A.2 m.next)
  split
  ·unfold chosen jz;simp only;rw[yj];have h1:=hi (t.kid 0) m.reg u m.next;generalize aj sh m.next (obs sh d (t.kid 0) m.reg u)=A at *;have h2:=hi (t.kid 1) (A.1.lay (ix 19 0 m.next 0)) A.2 m.next;generalize aj sh m.next (obs sh d (t.kid 1) (A.1.lay (ix 19 0 m.next 0)) A.2)=C at *;exact Nat.le_trans (Nat.le_trans h1 h2) (hi (t.kid 2) (((C.1.back (A.1.lay (ix 19 0 m.next 0)).known).lay (ix 20 0 0 0)).here A.1.ins.length) C.2 m.next)
  ·unfold me;simp only;have h1:=ih (t.kid 0) m u;have h2:∀ b:Ob,b=(if 1<t.ks.length then obs sh d (t.kid 1) (obs sh d (t.kid 0) m u).2.1 (obs sh d (t.kid 0) m u).2.2 else(0,(obs sh d (t.kid 0) m u).2.1,(obs sh d (t.kid 0) m u).2.2))→m.ws.length≤b.2.1.ws.length:=by
    rintro b rfl;split
    ·exact Nat.le_trans h1 (ih _ _ _)
    ·exact h1
   split
   ·exact Nat.le_trans (h2 _ rfl) (vz _ _ _ _)
   ·rw[yj]; exact h2 _ rfl
theorem kq (sh:Bool)(d:Nat):∀(t:T) (m:Mk),m.ws.length≤(con sh d t m).ws.length∧m.ins.length≤(con sh d t m).ins.length:=by
 induction d with
 |zero=>intro t m; exact⟨Nat.le_refl _,Nat.le_refl _⟩
 |succ d ih=>
  intro t m;have he:∀(r:Int) (m:Mk),m.ws.length≤(either (con sh d) r t m).ws.length∧m.ins.length≤(either (con sh d) r t m).ins.length:=by
   intro r m;unfold either;simp only[ak,ao];have h1:=ih (t.kid 1) (m.lay (ix 19 0 r 0));rw[ah] at h1;generalize con sh d (t.kid 1) (m.lay (ix 19 0 r 0))=C at *;have h2:=ih (t.kid 2) (((C.back (m.lay (ix 19 0 r 0)).known).lay (ix 20 0 0 0)).here m.ins.length);rw[ak,ah,ao] at h2;exact⟨Nat.le_trans h1.1 h2.1,by omega⟩
  rw[con];split
  ·exact⟨by show m.ws.length≤(m.ws++[_]).length; simp,by show m.ins.length≤(m.ins++[_]).length; simp⟩
  ·rw[yj,df];split
   ·rw[ah]; exact⟨Nat.le_refl _,by omega⟩
   split
   ·have h1:=ih (t.kid 0) (m.lay (ix 24 0 0 0));rw[ah] at h1;exact⟨h1.1,by omega⟩
   split
   ·have h1:=ih (t.kid 0) (m.reg.lay (ix 25 m.next 0 0));rw[ah,nz] at h1;generalize con sh d (t.kid 0) (m.reg.lay (ix 25 m.next 0 0))=C at *;have h2:=ih (t.kid 1) (C.lay (ix 26 0 m.next 0));rw[ah] at h2;exact⟨Nat.le_trans h1.1 h2.1,by omega⟩
   split
   ·simp only;have h1:=zbh sh d (t.kid 0) m [];have A0:=bm sh d (t.kid 0) m [];have h2:=ih (t.kid 1) ((obs sh d (t.kid 0) m []).2.1.lay (ix 23 0 (obs sh d (t.kid 0) m []).1 0));rw[ah] at h2;exact⟨Nat.le_trans h1 h2.1,by omega⟩
   split
   ·simp only;have h1:=zbh sh d (t.kid 0) m [];have A0:=bm sh d (t.kid 0) m [];have h2:=he (obs sh d (t.kid 0) m []).1 (obs sh d (t.kid 0) m []).2.1;exact⟨Nat.le_trans h1 h2.1,by omega⟩
   ·exact⟨Nat.le_refl _,Nat.le_refl _⟩
end Gf
end
section
open Go.RowKit
namespace Gf
open Co Gen Dn
def jw (m:Mk):List (Nat × T) × Nat:=(m.jobs,m.ws.length)
theorem bg (m:Mk)(x:Ix):jw (m.lay x)=jw m:=rfl
theorem zbt (m:Mk):jw m.reg=jw m:=rfl
theorem dh (m:Mk)(p:Nat):jw (m.here p)=jw m:=rfl
theorem ig (m:Mk)(k:Val→Option Int):jw (m.back k)=jw m:=rfl
theorem di (m:Mk)(sh:Bool)(r:Int):jw (m.free sh r)=jw m:=by unfold Mk.free; cases sh<;>rfl
theorem nh (m:Mk):jw m.fin=jw m:=rfl
theorem zy (m:Mk):jw m.fresh=jw m:=rfl
theorem zyn (m:Mk)(v:Val)(r:Int):jw (m.put v r)=jw m:=rfl
theorem kj (m:Mk)(j:Nat)(f:Wt→Wt):jw (m.setW j f)=jw m:=by simp[jw,Mk.setW]
theorem rd (sh:Bool)(out:Int)(o:Ob):jw (aj sh out o).1=jw o.2.1:=by unfold aj; rw[di,bg]
theorem sj (sh:Bool)(v:Val)(m:Mk)(u:List Nat):jw (au sh v m u).2.1=jw m:=by
 unfold au;split
 ·rfl
 ·exact(zyn _ _ _).trans rfl
theorem zzs {ob:T→Mk→List Nat→Ob}(h:∀(t:T) (m:Mk) (u:List Nat),jw (ob t m u).2.1=jw m)(sh:Bool)(t:T)(m:Mk)(u:List Nat):jw (me ob sh t m u).2.1=jw m:=by
 have h1:=h (t.kid 0) m u;obtain⟨o,ho⟩:∃ o,ob (t.kid 0) m u=o:=⟨_,rfl⟩
 rw[ho] at h1;by_cases hl:1<t.ks.length
 ·have h2:=h (t.kid 1) o.2.1 o.2.2;obtain⟨p,hp⟩:∃ p,ob (t.kid 1) o.2.1 o.2.2=p:=⟨_,rfl⟩
  rw[hp] at h2;rw[iy hl rfl ho rfl hp];cases sh
  ·exact(di _ _ _).trans ((bg _ _).trans (h2.trans h1))
  ·exact(sj _ _ _ _).trans (h2.trans h1)
 ·rw[iz hl rfl ho];cases sh
  ·exact(di _ _ _).trans ((bg _ _).trans h1)
  ·exact(sj _ _ _ _).trans h1
theorem dr (sh:Bool)(d:Nat):∀(t:T) (m:Mk) (u:List Nat),jw (obs sh d t m u).2.1=jw m:=by
 induction d with
 |zero=>intro t m u; rfl
 |succ d ih=>
  intro t m u;rw[obs];split
  ·exact sj _ _ _ _
  split
  ·exact sj _ _ _ _
  split
  ·exact sj _ _ _ _
  split
  ·unfold chosen iq;simp only;rw[di,dh,ig,rd,ih,bg,rd,ih,zbt]
  split
  ·unfold chosen jy;simp only;rw[di,dh,ig,rd,ih,dh,bg,bg,rd,ih,zbt]
  split
  ·unfold chosen jz;simp only;rw[di,dh,ig,rd,ih,dh,bg,ig,rd,ih,bg,rd,ih,zbt]
  ·exact zzs ih sh t m u
def zzy (n:Nat)(x:Nat × T):Prop:=x.1<n∧x.2.letter=99∧bp x.2=true∧x.2.depth≤200
def JobsOk (s:List (Nat × T) × Nat):Prop:=∀ x∈s.1,zzy s.2 x
theorem JobsOk.call {m:Mk}{t:T}(h:JobsOk (jw m))(hx:t.letter=99)(hw:bp t=true)(hd:t.depth≤200):JobsOk (jw (m.call t)):=by
 intro x A0;have hl:(jw (m.call t)).2=m.ws.length+1:=by simp[jw,Mk.call]
 have hm:x∈m.jobs++[(m.ws.length,t)]:=A0;rw[hl];rcases List.mem_append.1 hm with h1|h1
 ·obtain⟨h2,h3⟩:=h x h1;exact⟨Nat.lt_succ_of_lt h2,h3⟩
 ·rw[List.mem_singleton] at h1;subst h1;exact⟨Nat.lt_succ_self _,hx,hw,hd⟩
theorem ni (sh:Bool)(d:Nat):∀(t:T) (m:Mk),t.letter=99→t.depth≤200→JobsOk (jw m)→JobsOk (jw (con sh d t m)):=by
 induction d with
 |zero=>intro t m _ _ h; exact h
 |succ d ih=>
  intro t m hx hd h;cases hw:bp t with
  |true=>rw[ns hw]; exact h.call hx hw hd
  |false=>
   obtain⟨op,n,s,ks⟩:=t;have hk:∀ k∈ks,k.depth≤200:=fun k hk=>by
    have:=em hk;rw[T.depth] at hd;omega
   obtain⟨w1,w2,w3,w4⟩:=mx hw;rcases bz hx with(⟨rfl,rfl⟩|⟨rfl,rfl⟩)|⟨h1,a,rfl,ha⟩|⟨rfl,o,a,rfl,ho,ha⟩|⟨h1,a,b,rfl,ha,hb⟩|⟨rfl,o,a,b,rfl,ho,ha,hb⟩|⟨rfl,o,a,rfl,ho,ha⟩
   ·rw[nj hw rfl,di]; exact h
   ·rw[qf hw rfl,di]; exact h
   ·rcases h1 with rfl|rfl
    ·rw[nr hw rfl,ay,di];exact ih a _ ha (hk a (by simp)) h
    ·exact absurd rfl w1
   ·rw[lj hw rfl,ay,bx,di];exact ih a _ ha (hk a (by simp)) (by rw[bg,dr]; exact h)
   ·rcases h1 with rfl|rfl
    ·rw[nt hw rfl,ay,bx,di];exact ih b _ hb (hk b (by simp)) (ih a _ ha (hk a (by simp)) h)
    ·exact absurd rfl w3
   ·rw[ss hw rfl,ay,di];unfold either;simp only[bx,ng,dh,ig];refine ih b _ hb (hk b (by simp)) ?_;rw[dh,bg,ig];refine ih a _ ha (hk a (by simp)) ?_;rw[bg,dr];exact h
   ·exact absurd rfl w2
theorem zer:∀(l:List Nat) (m:Mk),jw (hereAll m l)=jw m
 | [],_=>rfl
 |p::r,m=>(zer r (m.here p)).trans (dh m p)
theorem fm (j:Nat)(l:List Nat)(m:Mk):jw (again j m l)=jw m:=by
 unfold again;rw[nh,bg,zer,nh,kj]
theorem ew (j:Nat)(m:Mk):jw (waitIn j m)=jw m:=by unfold waitIn; rw[zy,kj]
end Gf
end
section
open Go.RowKit
namespace Gf
open Co Gen Dn
theorem ko (sh:Bool)(j:Nat)(t:T)(m:Mk):∃ A C B D:Mk,A=((m.lay (ix 21 0 0 t.n)).lay (ix 28 0 0 j)).fin∧C=con sh 200 (t.kid 0) (A.lay (ix 21 0 0 t.n))∧B=(C.fin.here m.ins.length).here A.ins.length∧D=con sh 200 (t.kid 1) B.fresh ∧
  wy sh j t m=D.fin.setW j fun _=>⟨m.ins.length,cv (t.n+1),t.s,A.ins.length,B.ins.length⟩:=⟨_,_,_,_,rfl,rfl,rfl,rfl,rfl⟩
theorem cm (con:T→Mk→Mk)(r:Int)(t:T)(m:Mk):∃ A B C D:Mk,A=m.lay (ix 19 0 r 0)∧B=con (t.kid 1) A∧C=((B.back A.known).lay (ix 20 0 0 0)).here m.ins.length∧D=con (t.kid 2) C ∧
  either con r t m=(D.back C.known).here (B.back A.known).ins.length:=⟨_,_,_,_,rfl,rfl,rfl,rfl,rfl⟩
theorem zqn (sh:Bool)(j:Nat)(t:T)(m:Mk)(hx:t.letter=99)(hw:bp t=true)(hd:t.depth≤200)(h:JobsOk (jw m)):JobsOk (jw (wait sh j t m)):=by
 obtain⟨op,n,s,ks⟩:=t;have hk:∀ k∈ks,k.depth≤200:=fun k hk=>by
  have:=em hk;rw[T.depth] at hd;omega
 rcases bz hx with(⟨rfl,rfl⟩|⟨rfl,rfl⟩)|⟨h1,a,rfl,ha⟩|⟨rfl,o,a,rfl,ho,ha⟩|⟨h1,a,b,rfl,ha,hb⟩|⟨rfl,o,a,b,rfl,ho,ha,hb⟩|⟨rfl,o,a,rfl,ho,ha⟩
 ·rw[bv (by omega)] at hw; cases hw
 ·rw[bv (by omega)] at hw; cases hw
 ·rcases h1 with rfl|rfl
  ·rw[bv (by omega)] at hw; cases hw
  ·rw[kg rfl,ay,fm];exact ni sh 200 a _ ha (hk a (by simp)) (by rw[bg,kj,ew]; exact h)
 ·rw[fx rfl,ay,bx,fm];exact ni sh 200 a _ ha (hk a (by simp)) (by rw[bg,dr,ew]; exact h)
 ·rcases h1 with rfl|rfl
  ·rw[bv (by omega)] at hw; cases hw
  ·rw[ij rfl];obtain⟨A,C,B,D,hA,hC,hB,hD,e⟩:=ko sh j (T.mk 31 n s [a,b]) (waitIn j m);rw[ay] at hC;rw[bx] at hD;rw[e,kj,nh,hD];refine ni sh 200 b _ hb (hk b (by simp)) ?_;rw[zy,hB,dh,dh,nh,hC];refine ni sh 200 a _ ha (hk a (by simp)) ?_;rw[bg,hA,nh,bg,bg,ew];exact h
 ·rw[kf rfl,ay,fm];have A0:=dr sh 200 o (waitIn j m) [];rw[ew] at A0;generalize obs sh 200 o (waitIn j m) []=O at *;obtain⟨A,B,C,D,hA,hB,hC,hD,e⟩:=cm (con sh 200) O.1 (T.mk 28 n s [o,a,b]) O.2.1;rw[bx] at hB;rw[ng] at hD;rw[e,dh,ig,hD];refine ni sh 200 b _ hb (hk b (by simp)) ?_;rw[hC,dh,bg,ig,hB];refine ni sh 200 a _ ha (hk a (by simp)) ?_;rw[hA,bg,A0];exact h
 ·rw[ii rfl,ay,bx,fm,dh];exact ni sh 200 a _ ha (hk a (by simp)) (by rw[bg,dr,bg,kj,ew]; exact h)
end Gf
end
section
open Go.RowKit
namespace Gf
open Co Gen Dn
def tot:List (Nat × T)→Nat
 | []=>0
 |x::r=>x.2.size+tot r
theorem zeh (a b:List (Nat × T)):tot (a++b)=tot a+tot b:=by
 induction a with
 |nil=>simp[tot]
 |cons x r ih=>rw[List.cons_append,tot,tot,ih]; omega
theorem zqo (m:Mk)(t:T):tot (jw (m.call t)).1=tot (jw m).1+t.size:=by
 show tot (m.jobs++[(m.ws.length,t)])=_
 rw[zeh];rfl
theorem qc (sh:Bool)(d:Nat):∀(t:T) (m:Mk),t.letter=99→tot (jw (con sh d t m)).1≤tot (jw m).1+t.size:=by
 induction d with
 |zero=>intro t m _; exact Nat.le_add_right _ _
 |succ d ih=>
  intro t m hx;cases hw:bp t with
  |true=>rw[ns hw,zqo]; exact Nat.le_refl _
  |false=>
   obtain⟨op,n,s,ks⟩:=t;have hz:(T.mk op n s ks).size=1+sizes ks:=by rw[T.size]
   obtain⟨w1,w2,w3,w4⟩:=mx hw;rcases bz hx with(⟨rfl,rfl⟩|⟨rfl,rfl⟩)|⟨h1,a,rfl,ha⟩|⟨rfl,o,a,rfl,ho,ha⟩|⟨h1,a,b,rfl,ha,hb⟩|⟨rfl,o,a,b,rfl,ho,ha,hb⟩|⟨rfl,o,a,rfl,ho,ha⟩
   ·rw[nj hw rfl,di]; omega
   ·rw[qf hw rfl,di,bg]; omega
   ·rcases h1 with rfl|rfl
    ·rw[nr hw rfl,ay,di];have hs:(T.mk 25 n s [a]).size=1+a.size:=by rw[hz]; simp[sizes]
     have:=ih a (m.lay (ix 24 0 0 0)) ha;rw[bg] at this;omega
    ·exact absurd rfl w1
   ·rw[lj hw rfl,ay,bx,di];have hs:(T.mk 26 n s [o,a]).size=1+(o.size+a.size):=by rw[hz]; simp[sizes]
    have:=ih a ((obs sh d o m []).2.1.lay (ix 23 0 (obs sh d o m []).1 0)) ha;rw[bg,dr] at this;omega
   ·rcases h1 with rfl|rfl
    ·rw[nt hw rfl,ay,bx,di];have hs:(T.mk 27 n s [a,b]).size=1+(a.size+b.size):=by rw[hz]; simp[sizes]
     have h1:=ih a (m.reg.lay (ix 25 m.next 0 0)) ha;rw[bg,zbt] at h1;generalize con sh d a (m.reg.lay (ix 25 m.next 0 0))=C at *;have h2:=ih b (C.lay (ix 26 0 m.next 0)) hb;rw[bg] at h2;omega
    ·exact absurd rfl w3
   ·rw[ss hw rfl,ay,di];have hs:(T.mk 28 n s [o,a,b]).size=1+(o.size+(a.size+b.size)):=by rw[hz]; simp[sizes]
    have A0:=dr sh d o m [];generalize obs sh d o m []=O at *;unfold either;simp only[bx,ng,dh,ig];have h1:=ih a (O.2.1.lay (ix 19 0 O.1 0)) ha;rw[bg,A0] at h1;generalize con sh d a (O.2.1.lay (ix 19 0 O.1 0))=C at *;have h2:=ih b (((C.back (O.2.1.lay (ix 19 0 O.1 0)).known).lay (ix 20 0 0 0)).here O.2.1.ins.length) hb;rw[dh,bg,ig] at h2;omega
   ·exact absurd rfl w2
theorem zig (sh:Bool)(j:Nat)(t:T)(m:Mk)(hx:t.letter=99)(hw:bp t=true):tot (jw (wait sh j t m)).1+1≤tot (jw m).1+t.size:=by
 obtain⟨op,n,s,ks⟩:=t;have hz:(T.mk op n s ks).size=1+sizes ks:=by rw[T.size]
 rcases bz hx with(⟨rfl,rfl⟩|⟨rfl,rfl⟩)|⟨h1,a,rfl,ha⟩|⟨rfl,o,a,rfl,ho,ha⟩|⟨h1,a,b,rfl,ha,hb⟩|⟨rfl,o,a,b,rfl,ho,ha,hb⟩|⟨rfl,o,a,rfl,ho,ha⟩
 ·rw[bv (by omega)] at hw; cases hw
 ·rw[bv (by omega)] at hw; cases hw
 ·rcases h1 with rfl|rfl
  ·rw[bv (by omega)] at hw; cases hw
  ·have hs:(T.mk 29 n s [a]).size=1+a.size:=by rw[hz]; simp[sizes]
   rw[kg rfl,ay,fm]
   have:=qc sh 200 a (((waitIn j m).setW j fun w=>{ w with day:=(T.mk 29 n s [a]).n }).lay (ix 22 0 0 (T.mk 29 n s [a]).n)) ha;rw[bg,kj,ew] at this;omega
 ·have hs:(T.mk 26 n s [o,a]).size=1+(o.size+a.size):=by rw[hz]; simp[sizes]
  rw[fx rfl,ay,bx,fm]
  have:=qc sh 200 a ((obs sh 200 o (waitIn j m) []).2.1.lay (ix 23 0 (obs sh 200 o (waitIn j m) []).1 0)) ha;rw[bg,dr,ew] at this;omega
 ·rcases h1 with rfl|rfl
  ·rw[bv (by omega)] at hw; cases hw
  ·have hs:(T.mk 31 n s [a,b]).size=1+(a.size+b.size):=by rw[hz]; simp[sizes]
   rw[ij rfl];obtain⟨A,C,B,D,hA,hC,hB,hD,e⟩:=ko sh j (T.mk 31 n s [a,b]) (waitIn j m);rw[ay] at hC;rw[bx] at hD;have h1:=qc sh 200 a (A.lay (ix 21 0 0 (T.mk 31 n s [a,b]).n)) ha;have h2:=qc sh 200 b B.fresh hb;rw[←hC,bg,hA,nh,bg,bg,ew] at h1;rw[←hD,zy,hB,dh,dh,nh] at h2;rw[e,kj,nh];omega
 ·have hs:(T.mk 28 n s [o,a,b]).size=1+(o.size+(a.size+b.size)):=by rw[hz]; simp[sizes]
  rw[kf rfl,ay,fm];have A0:=dr sh 200 o (waitIn j m) [];rw[ew] at A0;generalize obs sh 200 o (waitIn j m) []=O at *;obtain⟨A,B,C,D,hA,hB,hC,hD,e⟩:=cm (con sh 200) O.1 (T.mk 28 n s [o,a,b]) O.2.1;rw[bx] at hB;rw[ng] at hD;have h1:=qc sh 200 a A ha;have h2:=qc sh 200 b C hb;rw[←hB,hA,bg,A0] at h1;rw[←hD,hC,dh,bg,ig] at h2;rw[e,dh,ig];omega
 ·have hs:(T.mk 30 n s [o,a]).size=1+(o.size+a.size):=by rw[hz]; simp[sizes]
  rw[ii rfl,ay,bx,fm,dh];have A0:=dr sh 200 o (((waitIn j m).setW j fun w=>{ w with day:=(T.mk 30 n s [o,a]).n+1 }).lay (ix 21 0 0 (T.mk 30 n s [o,a]).n)) [];rw[bg,kj,ew] at A0;generalize obs sh 200 o _ []=O at *
  have:=qc sh 200 a (O.2.1.lay (ix 19 0 O.1 0)) ha;rw[bg,A0] at this;omega
end Gf
end
section
open Go.RowKit
namespace Gf
open Co Gen Dn
structure Gr (s:Int)(m m':Mk):Prop where
 ln:m.ins.length≤m'.ins.length
 sl:0≤(m'.ins.length:Int) - m.ins.length+s
 nx:m'.next≤m.next+((m'.ins.length:Int) - m.ins.length)+s
 rg:m'.regs≤max m.regs (m.next+((m'.ins.length:Int) - m.ins.length)+s)
 pt:m'.puts+m.ins.length≤m.puts+m'.ins.length
section
variable {s s':Int}{m m' m'':Mk}
theorem Gr.refl (m:Mk):Gr 0 m m:=⟨Nat.le_refl _,by omega,by omega,by omega,Nat.le_refl _⟩
theorem Gr.trans (h:Gr s m m')(k:Gr s' m' m''):Gr (s+s') m m'':=by
 obtain⟨h1,h2,h3,h4,h5⟩:=h;obtain⟨k1,k2,k3,k4,k5⟩:=k;exact⟨by omega,by omega,by omega,by omega,by omega⟩
theorem Gr.weak (h:Gr s m m')(hs:s≤s'):Gr s' m m':=by
 obtain⟨h1,h2,h3,h4,h5⟩:=h;exact⟨by omega,by omega,by omega,by omega,by omega⟩
theorem Gr.lay (h:Gr s m m')(x:Ix):Gr (s - 1) m (m'.lay x):=by
 obtain⟨h1,h2,h3,h4,h5⟩:=h;have hl:=ah m' x;have e1:(m'.lay x).next=m'.next:=rfl;have e2:(m'.lay x).regs=m'.regs:=rfl;have e3:(m'.lay x).puts=m'.puts:=rfl;refine⟨by omega,by omega,by rw[e1]; omega,by rw[e2]; omega,by rw[e3]; omega⟩
theorem Gr.reg (h:Gr s m m'):Gr (s+1) m m'.reg:=by
 obtain⟨h1,h2,h3,h4,h5⟩:=h;have hl:=nz m';have e1:m'.reg.next=m'.next+1:=rfl;have e2:m'.reg.regs=max m'.regs (m'.next+1):=rfl;have e3:m'.reg.puts=m'.puts:=rfl;refine⟨by omega,by omega,by rw[e1]; omega,by rw[e2]; omega,by rw[e3]; omega⟩
theorem Gr.here (h:Gr s m m')(p:Nat):Gr s m (m'.here p):=by
 obtain⟨h1,h2,h3,h4,h5⟩:=h;have hl:=ak m' p;exact⟨by omega,by omega,by rw[hl]; exact h3,by rw[hl]; exact h4,by rw[hl]; exact h5⟩
theorem Gr.back (h:Gr s m m')(k:Val→Option Int):Gr s m (m'.back k):=⟨h.ln,h.sl,h.nx,h.rg,h.pt⟩
theorem Gr.setW (h:Gr s m m')(j:Nat)(f:Wt→Wt):Gr s m (m'.setW j f):=⟨h.ln,h.sl,h.nx,h.rg,h.pt⟩
theorem Gr.fin (h:Gr s m m'):Gr (s - 1) m m'.fin:=h.lay _
theorem Gr.free (h:Gr s m m')(sh:Bool){r:Int}(hr:r≤m.next+((m'.ins.length:Int) - m.ins.length)+s):Gr s m (m'.free sh r):=by
 unfold Mk.free;split
 ·exact h
 ·exact⟨h.ln,h.sl,hr,h.rg,h.pt⟩
theorem Gr.fresh (h:Gr s m m')(hr:0≤m.next+((m'.ins.length:Int) - m.ins.length)+s):Gr s m m'.fresh:=⟨h.ln,h.sl,hr,h.rg,h.pt⟩
theorem Gr.call (h:Gr s m m')(t:T):Gr (s - 1) m (m'.call t):=by
 have:=h.lay (ix 29 0 0 m'.ws.length);exact⟨this.ln,this.sl,this.nx,this.rg,this.pt⟩
theorem wg (sh:Bool)(v:Val)(u:List Nat)(h:Gr s m m'):Gr s m (au sh v m' u).2.1:=by
 unfold au;split
 ·exact h
 ·obtain⟨h1,h2,h3,h4,h5⟩:=(h.reg).lay (v.ix m'.next);have hl:=ah m'.reg (v.ix m'.next);rw[nz] at hl;have e1:((m'.reg.lay (v.ix m'.next)).put v m'.next).next=(m'.reg.lay (v.ix m'.next)).next:=rfl;have e2:((m'.reg.lay (v.ix m'.next)).put v m'.next).regs=(m'.reg.lay (v.ix m'.next)).regs:=rfl;have e3:((m'.reg.lay (v.ix m'.next)).put v m'.next).puts=m'.puts+1:=rfl;have e4:((m'.reg.lay (v.ix m'.next)).put v m'.next).ins.length=(m'.reg.lay (v.ix m'.next)).ins.length:=rfl;have k1:=h.ln;have k5:=h.pt;refine⟨?_,?_,?_,?_,?_⟩
  ·show _≤((m'.reg.lay (v.ix m'.next)).put v m'.next).ins.length; omega
  ·show 0≤(((m'.reg.lay (v.ix m'.next)).put v m'.next).ins.length:Int) - _+_; omega
  ·show((m'.reg.lay (v.ix m'.next)).put v m'.next).next≤_+((((m'.reg.lay (v.ix m'.next)).put v m'.next).ins.length:Int) - _)+_; rw[e1,e4]; omega
  ·show((m'.reg.lay (v.ix m'.next)).put v m'.next).regs≤max _ (_+((((m'.reg.lay (v.ix m'.next)).put v m'.next).ins.length:Int) - _)+_); rw[e2,e4]; omega
  ·show((m'.reg.lay (v.ix m'.next)).put v m'.next).puts+_≤_+((m'.reg.lay (v.ix m'.next)).put v m'.next).ins.length; rw[e3,e4]; omega
end
theorem zxo {s:Int}{m:Mk}{o:Ob}(sh:Bool)(h:Gr s m o.2.1)(out:Int)(hr:out+1≤m.next+((o.2.1.ins.length:Int) - m.ins.length)+s):Gr (s - 1) m (aj sh out o).1:=by
 unfold aj;refine(h.lay _).free sh ?_;rw[ah];omega
theorem zpz (sh:Bool)(d:Nat):∀(t:T) (m:Mk) (u:List Nat),Gr 0 m (obs sh d t m u).2.1:=by
 induction d with
 |zero=>intro t m u; exact Gr.refl m
 |succ d ih=>
  intro t m u;have hi:∀ {s:Int} {m0 m':Mk} (t:T) (u:List Nat) (out:Int),Gr s m0 m'→out+1≤m0.next+((m'.ins.length:Int) - m0.ins.length)+s→Gr (s - 1) m0 (aj sh out (obs sh d t m' u)).1:=by
   intro s m0 m' t u out h hr;have h1:=h.trans (ih t m' u);rw[Int.add_zero] at h1;refine zxo sh h1 out ?_
   have:=(ih t m' u).ln;omega
  rw[obs];split
  ·exact wg _ _ _ (Gr.refl m)
  split
  ·exact wg _ _ _ (Gr.refl m)
  split
  ·exact wg _ _ _ (Gr.refl m)
  have h1:=hi (t.kid 0) u m.next (Gr.refl m).reg (by rw[nz]; omega);have hl:=ej sh m.next (obs sh d (t.kid 0) m.reg u);have A3:=bm sh d (t.kid 0) m.reg u;rw[nz] at A3;split
  ·unfold chosen iq;simp only;generalize aj sh m.next (obs sh d (t.kid 0) m.reg u)=A at *;have h2:=hi (t.kid 1) A.2 m.next (h1.lay (ix 19 0 m.next 0)) (by rw[ah]; omega);have A1:=ej sh m.next (obs sh d (t.kid 1) (A.1.lay (ix 19 0 m.next 0)) A.2);have A0:=bm sh d (t.kid 1) (A.1.lay (ix 19 0 m.next 0)) A.2;rw[ah] at A0;exact(((h2.back _).here _).weak (by omega)).free sh (by rw[ak,ao]; omega)
  split
  ·unfold chosen jy;simp only;generalize aj sh m.next (obs sh d (t.kid 0) m.reg u)=A at *;have h2:=hi (t.kid 1) A.2 m.next (((h1.lay (ix 19 0 m.next 0)).lay (ix 20 0 0 0)).here A.1.ins.length) (by rw[ak,ah,ah]; omega);have A1:=ej sh m.next (obs sh d (t.kid 1) (((A.1.lay (ix 19 0 m.next 0)).lay (ix 20 0 0 0)).here A.1.ins.length) A.2);have A0:=bm sh d (t.kid 1) (((A.1.lay (ix 19 0 m.next 0)).lay (ix 20 0 0 0)).here A.1.ins.length) A.2;rw[ak,ah,ah] at A0;exact(((h2.back _).here _).weak (by omega)).free sh (by rw[ak,ao]; omega)
  split
  ·unfold chosen jz;simp only;generalize aj sh m.next (obs sh d (t.kid 0) m.reg u)=A at *;have h2:=hi (t.kid 1) A.2 m.next (h1.lay (ix 19 0 m.next 0)) (by rw[ah]; omega);have A1:=ej sh m.next (obs sh d (t.kid 1) (A.1.lay (ix 19 0 m.next 0)) A.2);have A0:=bm sh d (t.kid 1) (A.1.lay (ix 19 0 m.next 0)) A.2;rw[ah] at A0;generalize aj sh m.next (obs sh d (t.kid 1) (A.1.lay (ix 19 0 m.next 0)) A.2)=C at *;have h3:=hi (t.kid 2) C.2 m.next (((h2.back (A.1.lay (ix 19 0 m.next 0)).known).lay (ix 20 0 0 0)).here A.1.ins.length) (by rw[ak,ah,ao]; omega);have A4:=ej sh m.next (obs sh d (t.kid 2) (((C.1.back (A.1.lay (ix 19 0 m.next 0)).known).lay (ix 20 0 0 0)).here A.1.ins.length) C.2);have A2:=bm sh d (t.kid 2) (((C.1.back (A.1.lay (ix 19 0 m.next 0)).known).lay (ix 20 0 0 0)).here A.1.ins.length) C.2;rw[ak,ah,ao] at A2;exact(((h3.back _).here _).weak (by omega)).free sh (by rw[ak,ao]; omega)
  ·unfold me;simp only;have g1:=ih (t.kid 0) m u;generalize obs sh d (t.kid 0) m u=A at *;have h2:∀ b:Ob,b=(if 1<t.ks.length then obs sh d (t.kid 1) A.2.1 A.2.2 else(0,A.2.1,A.2.2))→Gr 0 m b.2.1:=by
    rintro b rfl;split
    ·have:=g1.trans (ih (t.kid 1) A.2.1 A.2.2);rwa [Int.add_zero] at this
    ·exact g1
   split
   ·exact wg _ _ _ (h2 _ rfl)
   ·have g2:=h2 _ rfl;generalize (if 1<t.ks.length then obs sh d (t.kid 1) A.2.1 A.2.2 else(0,A.2.1,A.2.2))=B at *
    have:=g2.ln;exact((g2.lay _).weak (by omega)).free sh (by rw[ah]; omega)
theorem zrt (sh:Bool)(d:Nat):∀(t:T) (m:Mk),Gr 0 m (con sh d t m):=by
 induction d with
 |zero=>intro t m; exact Gr.refl m
 |succ d ih=>
  intro t m;have hi:∀ {s:Int} {m0 m':Mk} (t:T),Gr s m0 m'→Gr s m0 (con sh d t m'):=by
   intro s m0 m' t h;have h1:=h.trans (ih t m');rwa [Int.add_zero] at h1
  have ho:∀ {s:Int} {m0 m':Mk} (t:T),Gr s m0 m'→Gr s m0 (obs sh d t m' []).2.1:=by
   intro s m0 m' t h;have h1:=h.trans (zpz sh d t m' []);rwa [Int.add_zero] at h1
  have hf:∀ {m':Mk},Gr 0 m m'→Gr 0 m (m'.free sh m.next):=fun h=>h.free sh (by have:=h.ln; omega);rw[con];split
  ·exact((Gr.refl m).call t).weak (by omega)
  ·apply hf;split
   ·exact((Gr.refl m).lay _).weak (by omega)
   split
   ·exact(hi _ ((Gr.refl m).lay _)).weak (by omega)
   split
   ·exact(hi _ ((hi _ ((Gr.refl m).reg.lay _)).lay _)).weak (by omega)
   split
   ·simp only;exact(hi _ ((ho _ (Gr.refl m)).lay _)).weak (by omega)
   split
   ·simp only;unfold either;simp only;exact((((hi _ ((((hi _ ((ho _ (Gr.refl m)).lay _)).back _).lay _).here _)).back _).here _)).weak (by omega)
   ·exact Gr.refl m
theorem zet {s:Int}{m:Mk}:∀(l:List Nat) (m':Mk),Gr s m m'→Gr s m (hereAll m' l)
 | [],_,h=>h
 |p::r,m',h=>zet r (m'.here p) (h.here p)
theorem vm {s:Int}{m m':Mk}(j:Nat)(l:List Nat)(h:Gr s m m'):Gr (s - 3) m (again j m' l):=by
 unfold again;exact((((zet l _ (h.setW j _).fin).lay _).fin)).weak (by omega)
theorem vx {sh:Bool}{j:Nat}{t:T}{m:Mk}(h1:t.op≠29)(h2:t.op≠30)(h3:t.op≠26)(h4:t.op≠28)(h5:t.op≠31):wait sh j t m=again j (waitIn j m) []:=by
 unfold wait;exact(if_neg h1).trans ((if_neg h2).trans ((if_neg h3).trans ((if_neg h4).trans (if_neg h5))))
theorem zlt (sh:Bool)(j:Nat)(t:T)(m:Mk):Gr 0 (waitIn j m) (wait sh j t m):=by
 have hc:∀ {s:Int} {m0 m':Mk} (t:T),Gr s m0 m'→Gr s m0 (con sh 200 t m'):=by
  intro s m0 m' t h;have h1:=h.trans (zrt sh 200 t m');rwa [Int.add_zero] at h1
 have ho:∀ {s:Int} {m0 m':Mk} (t:T),Gr s m0 m'→Gr s m0 (obs sh 200 t m' []).2.1:=by
  intro s m0 m' t h;have h1:=h.trans (zpz sh 200 t m' []);rwa [Int.add_zero] at h1
 have h0:=Gr.refl (waitIn j m);have hn:(waitIn j m).next=0:=rfl;by_cases A2:t.op=29
 ·rw[kg A2];exact(vm j _ (hc _ ((h0.setW j _).lay _))).weak (by omega)
 by_cases A1:t.op=30
 ·rw[ii A1];have g:=ho (t.kid 0) ((h0.setW j fun w=>{ w with day:=t.n+1 }).lay (ix 21 0 0 t.n));generalize obs sh 200 (t.kid 0) (((waitIn j m).setW j fun w=>{ w with day:=t.n+1 }).lay (ix 21 0 0 t.n)) []=O at *;exact(vm j _ ((hc (t.kid 1) (g.lay (ix 19 0 O.1 0))).here _)).weak (by omega)
 by_cases A4:t.op=26
 ·rw[fx A4];have g:=ho (t.kid 0) h0;generalize obs sh 200 (t.kid 0) (waitIn j m) []=O at *;exact(vm j _ (hc (t.kid 1) (g.lay (ix 23 0 O.1 0)))).weak (by omega)
 by_cases A3:t.op=28
 ·rw[kf A3];have g:=ho (t.kid 0) h0;generalize obs sh 200 (t.kid 0) (waitIn j m) []=O at *;obtain⟨A,B,C,D,hA,hB,hC,hD,e⟩:=cm (con sh 200) O.1 t O.2.1;have gA:Gr (0 - 1) (waitIn j m) A:=by rw[hA]; exact g.lay _
  have gB:Gr (0 - 1) (waitIn j m) B:=by rw[hB]; exact hc _ gA
  have gC:Gr (0 - 1 - 1) (waitIn j m) C:=by rw[hC]; exact((gB.back _).lay _).here _
  have gD:Gr (0 - 1 - 1) (waitIn j m) D:=by rw[hD]; exact hc _ gC
  rw[e];exact(vm j _ ((gD.back _).here _)).weak (by omega)
 by_cases A0:t.op=31
 ·rw[ij A0];obtain⟨A,C,B,D,hA,hC,hB,hD,e⟩:=ko sh j t (waitIn j m);have gA:Gr (-3) (waitIn j m) A:=by rw[hA]; exact((((h0.lay _).lay _).fin)).weak (by omega)
  have gC:Gr (-4) (waitIn j m) C:=by rw[hC]; exact(hc _ (gA.lay _)).weak (by omega)
  have gB:Gr (-5) (waitIn j m) B:=by rw[hB]; exact((gC.fin.here _).here _).weak (by omega)
  have gD:Gr (-5) (waitIn j m) D:=by rw[hD]; exact hc _ (gB.fresh (by rw[hn]; have:=gB.sl; omega))
  rw[e];exact((gD.fin).setW j _).weak (by omega)
 ·rw[vx A2 A1 A4 A3 A0];exact(vm j _ h0).weak (by omega)
end Gf
end
section
open Go.RowKit
namespace Gf
open Co Gen Dn
def gx (x:Ix)(z:Int):Ix:=⟨x.op,x.a,x.b,x.c,x.n,x.s,z⟩
structure Ext (m m':Mk):Prop where
 ins:∀(p:Nat) x,m.ins[p]? = some x→∃ z,m'.ins[p]? = some (gx x z)
 ws:m.ws <+: m'.ws
section
variable {m m' m'':Mk}
theorem Ext.refl (m:Mk):Ext m m:=⟨fun p x h=>⟨x.to,h⟩,List.prefix_refl _⟩
theorem Ext.trans (h:Ext m m')(k:Ext m' m''):Ext m m'':=⟨fun p x hx=>by
 obtain⟨t1,h1⟩:=h.ins p x hx;obtain⟨t2,h2⟩:=k.ins p _ h1;exact⟨t2,h2⟩,h.ws.trans k.ws⟩
theorem Ext.same (h:Ext m m')(h1:m''.ins=m'.ins)(h2:m''.ws=m'.ws):Ext m m'':=⟨by rw[h1]; exact h.ins,by rw[h2]; exact h.ws⟩
theorem Ext.lay (h:Ext m m')(x:Ix):Ext m (m'.lay x):=⟨fun p y hy=>by
 obtain⟨t,h1⟩:=h.ins p y hy;exact⟨t,by show(m'.ins++[x])[p]? = _; rw[List.getElem?_append_left (List.getElem?_eq_some_iff.1 h1).1]; exact h1⟩,h.ws⟩
theorem qb (m:Mk)(p q:Nat):(m.here p).ins[q]? = if p=q then(m.ins[q]?).map fun x=>gx x m.ins.length else m.ins[q]?:=by
 show(m.ins.modify p _)[q]? = _
 rw[List.getElem?_modify];split
 ·rfl
 ·simp
theorem Ext.here (h:Ext m m')(p:Nat):Ext m (m'.here p):=⟨fun q x hx=>by
 obtain⟨t,h1⟩:=h.ins q x hx;rw[qb];split
 ·exact⟨m'.ins.length,by rw[h1]; rfl⟩
 ·exact⟨t,h1⟩,h.ws⟩
theorem Ext.reg (h:Ext m m'):Ext m m'.reg:=h.same rfl rfl
theorem Ext.back (h:Ext m m')(k:Val→Option Int):Ext m (m'.back k):=h.same rfl rfl
theorem Ext.free (h:Ext m m')(sh:Bool)(r:Int):Ext m (m'.free sh r):=h.same (by unfold Mk.free; cases sh<;>rfl) (by unfold Mk.free; cases sh<;>rfl)
theorem Ext.put (h:Ext m m')(v:Val)(r:Int):Ext m (m'.put v r):=h.same rfl rfl
theorem Ext.fin (h:Ext m m'):Ext m m'.fin:=h.lay _
theorem Ext.fresh (h:Ext m m'):Ext m m'.fresh:=h.same rfl rfl
theorem Ext.call (h:Ext m m')(t:T):Ext m (m'.call t):=⟨(h.lay (ix 29 0 0 m'.ws.length)).ins,h.ws.trans (List.prefix_append _ _)⟩
theorem qn (sh:Bool)(v:Val)(u:List Nat)(h:Ext m m'):Ext m (au sh v m' u).2.1:=by
 unfold au;split
 ·exact h
 ·exact(h.reg.lay _).put v _
theorem zac {o:Ob}(sh:Bool)(out:Int)(h:Ext m o.2.1):Ext m (aj sh out o).1:=(h.lay _).free sh _
end
theorem jg (sh:Bool)(d:Nat):∀(t:T) (m:Mk) (u:List Nat),Ext m (obs sh d t m u).2.1:=by
 induction d with
 |zero=>intro t m u; exact Ext.refl m
 |succ d ih=>
  intro t m u;have hi:∀ {m0 m':Mk} (t:T) (u:List Nat) (out:Int),Ext m0 m'→Ext m0 (aj sh out (obs sh d t m' u)).1:=fun t u out h=>zac sh out (h.trans (ih t _ u));rw[obs];split
  ·exact qn _ _ _ (Ext.refl m)
  split
  ·exact qn _ _ _ (Ext.refl m)
  split
  ·exact qn _ _ _ (Ext.refl m)
  have h1:=hi (t.kid 0) u m.next (Ext.refl m).reg;split
  ·unfold chosen iq;simp only;exact(((hi _ _ _ (h1.lay _)).back _).here _).free sh _
  split
  ·unfold chosen jy;simp only;exact(((hi _ _ _ (((h1.lay _).lay _).here _)).back _).here _).free sh _
  split
  ·unfold chosen jz;simp only;exact(((hi _ _ _ ((((hi _ _ _ (h1.lay _)).back _).lay _).here _)).back _).here _).free sh _
  ·unfold me;simp only;have g1:=ih (t.kid 0) m u;generalize obs sh d (t.kid 0) m u=A at *;have h2:∀ b:Ob,b=(if 1<t.ks.length then obs sh d (t.kid 1) A.2.1 A.2.2 else(0,A.2.1,A.2.2))→Ext m b.2.1:=by
    rintro b rfl;split
    ·exact g1.trans (ih (t.kid 1) A.2.1 A.2.2)
    ·exact g1
   split
   ·exact qn _ _ _ (h2 _ rfl)
   ·exact((h2 _ rfl).lay _).free sh _
theorem fw (sh:Bool)(d:Nat):∀(t:T) (m:Mk),Ext m (con sh d t m):=by
 induction d with
 |zero=>intro t m; exact Ext.refl m
 |succ d ih=>
  intro t m;have hi:∀ {m0 m':Mk} (t:T),Ext m0 m'→Ext m0 (con sh d t m'):=fun t h=>h.trans (ih t _);have ho:∀ {m0 m':Mk} (t:T),Ext m0 m'→Ext m0 (obs sh d t m' []).2.1:=fun t h=>h.trans (jg sh d t _ []);rw[con];split
  ·exact(Ext.refl m).call t
  ·refine Ext.free ?_ sh _;split
   ·exact(Ext.refl m).lay _
   split
   ·exact hi _ ((Ext.refl m).lay _)
   split
   ·exact hi _ ((hi _ ((Ext.refl m).reg.lay _)).lay _)
   split
   ·simp only;exact hi _ ((ho _ (Ext.refl m)).lay _)
   split
   ·simp only;unfold either;simp only;exact((hi _ ((((hi _ ((ho _ (Ext.refl m)).lay _)).back _).lay _).here _)).back _).here _
   ·exact Ext.refl m
def ms:List (Nat × T)→Nat
 | []=>0
 |x::r=>(dd x.2 - 1)+ms r
theorem ziw (a b:List (Nat × T)):ms (a++b)=ms a+ms b:=by
 induction a with
 |nil=>simp[ms]
 |cons x r ih=>rw[List.cons_append,ms,ms,ih]; omega
def qv (s:List (Nat × T) × Nat):Nat:=s.2+ms s.1
theorem zed {t:T}(h:bp t=true):1≤dd t:=by
 obtain⟨op,n,s,ks⟩:=t;rw[py,if_pos h];omega
theorem zor (m:Mk){t:T}(h:bp t=true):qv (jw (m.call t))=qv (jw m)+dd t:=by
 have:=zed h;show(m.ws++[_]).length+ms (m.jobs++[(m.ws.length,t)])=m.ws.length+ms m.jobs+dd t
 rw[ziw,List.length_append];simp[ms];omega
theorem nl (sh:Bool)(d:Nat):∀(t:T) (m:Mk),t.letter=99→qv (jw (con sh d t m))≤qv (jw m)+dd t:=by
 induction d with
 |zero=>intro t m _; exact Nat.le_add_right _ _
 |succ d ih=>
  intro t m hx;cases hw:bp t with
  |true=>rw[ns hw,zor m hw]; exact Nat.le_refl _
  |false=>
   obtain⟨op,n,s,ks⟩:=t;have hz:dd (T.mk op n s ks)=bi ks:=by rw[py,if_neg (by rw[hw]; decide),Nat.zero_add]
   obtain⟨w1,w2,w3,w4⟩:=mx hw;rcases bz hx with(⟨rfl,rfl⟩|⟨rfl,rfl⟩)|⟨h1,a,rfl,ha⟩|⟨rfl,o,a,rfl,ho,ha⟩|⟨h1,a,b,rfl,ha,hb⟩|⟨rfl,o,a,b,rfl,ho,ha,hb⟩|⟨rfl,o,a,rfl,ho,ha⟩
   ·rw[nj hw rfl,di]; omega
   ·rw[qf hw rfl,di,bg]; omega
   ·rcases h1 with rfl|rfl
    ·rw[nr hw rfl,ay,di]
     have:=ih a (m.lay (ix 24 0 0 0)) ha;rw[bg] at this;simp only[bi] at hz;omega
    ·exact absurd rfl w1
   ·rw[lj hw rfl,ay,bx,di]
    have:=ih a ((obs sh d o m []).2.1.lay (ix 23 0 (obs sh d o m []).1 0)) ha;rw[bg,dr] at this;simp only[bi] at hz;omega
   ·rcases h1 with rfl|rfl
    ·rw[nt hw rfl,ay,bx,di];have h1:=ih a (m.reg.lay (ix 25 m.next 0 0)) ha;rw[bg,zbt] at h1;generalize con sh d a (m.reg.lay (ix 25 m.next 0 0))=C at *;have h2:=ih b (C.lay (ix 26 0 m.next 0)) hb;rw[bg] at h2;simp only[bi] at hz;omega
    ·exact absurd rfl w3
   ·rw[ss hw rfl,ay,di];have A0:=dr sh d o m [];generalize obs sh d o m []=O at *;unfold either;simp only[bx,ng,dh,ig];have h1:=ih a (O.2.1.lay (ix 19 0 O.1 0)) ha;rw[bg,A0] at h1;generalize con sh d a (O.2.1.lay (ix 19 0 O.1 0))=C at *;have h2:=ih b (((C.back (O.2.1.lay (ix 19 0 O.1 0)).known).lay (ix 20 0 0 0)).here O.2.1.ins.length) hb;rw[dh,bg,ig] at h2;simp only[bi] at hz;omega
   ·exact absurd rfl w2
theorem zos (sh:Bool)(j:Nat)(t:T)(m:Mk)(hx:t.letter=99)(hw:bp t=true):qv (jw (wait sh j t m))+1≤qv (jw m)+dd t:=by
 obtain⟨op,n,s,ks⟩:=t;have hz:dd (T.mk op n s ks)=1+bi ks:=by rw[py,if_pos hw]
 rcases bz hx with(⟨rfl,rfl⟩|⟨rfl,rfl⟩)|⟨h1,a,rfl,ha⟩|⟨rfl,o,a,rfl,ho,ha⟩|⟨h1,a,b,rfl,ha,hb⟩|⟨rfl,o,a,b,rfl,ho,ha,hb⟩|⟨rfl,o,a,rfl,ho,ha⟩
 ·rw[bv (by omega)] at hw; cases hw
 ·rw[bv (by omega)] at hw; cases hw
 ·rcases h1 with rfl|rfl
  ·rw[bv (by omega)] at hw; cases hw
  ·rw[kg rfl,ay,fm]
   have:=nl sh 200 a (((waitIn j m).setW j fun w=>{ w with day:=(T.mk 29 n s [a]).n }).lay (ix 22 0 0 (T.mk 29 n s [a]).n)) ha;rw[bg,kj,ew] at this;simp only[bi] at hz;omega
 ·rw[fx rfl,ay,bx,fm]
  have:=nl sh 200 a ((obs sh 200 o (waitIn j m) []).2.1.lay (ix 23 0 (obs sh 200 o (waitIn j m) []).1 0)) ha;rw[bg,dr,ew] at this;simp only[bi] at hz;omega
 ·rcases h1 with rfl|rfl
  ·rw[bv (by omega)] at hw; cases hw
  ·rw[ij rfl];obtain⟨A,C,B,D,hA,hC,hB,hD,e⟩:=ko sh j (T.mk 31 n s [a,b]) (waitIn j m);rw[ay] at hC;rw[bx] at hD;have h1:=nl sh 200 a (A.lay (ix 21 0 0 (T.mk 31 n s [a,b]).n)) ha;have h2:=nl sh 200 b B.fresh hb;rw[←hC,bg,hA,nh,bg,bg,ew] at h1;rw[←hD,zy,hB,dh,dh,nh] at h2;rw[e,kj,nh];simp only[bi] at hz;omega
 ·rw[kf rfl,ay,fm];have A0:=dr sh 200 o (waitIn j m) [];rw[ew] at A0;generalize obs sh 200 o (waitIn j m) []=O at *;obtain⟨A,B,C,D,hA,hB,hC,hD,e⟩:=cm (con sh 200) O.1 (T.mk 28 n s [o,a,b]) O.2.1;rw[bx] at hB;rw[ng] at hD;have h1:=nl sh 200 a A ha;have h2:=nl sh 200 b C hb;rw[←hB,hA,bg,A0] at h1;rw[←hD,hC,dh,bg,ig] at h2;rw[e,dh,ig];simp only[bi] at hz;omega
 ·rw[ii rfl,ay,bx,fm,dh];have A0:=dr sh 200 o (((waitIn j m).setW j fun w=>{ w with day:=(T.mk 30 n s [o,a]).n+1 }).lay (ix 21 0 0 (T.mk 30 n s [o,a]).n)) [];rw[bg,kj,ew] at A0;generalize obs sh 200 o _ []=O at *
  have:=nl sh 200 a (O.2.1.lay (ix 19 0 O.1 0)) ha;rw[bg,A0] at this;simp only[bi] at hz;omega
end Gf
end
section
open Go.RowKit
namespace Gf
open Co Gen Dn
theorem zwr {sh:Bool}{j:Nat}{t:T}{m m':Mk}(e:waitIn j m=waitIn j m'):wait sh j t m=wait sh j t m':=by
 by_cases A2:t.op=29
 ·rw[kg A2,kg A2,e]
 by_cases A1:t.op=30
 ·rw[ii A1,ii A1,e]
 by_cases A4:t.op=26
 ·rw[fx A4,fx A4,e]
 by_cases A3:t.op=28
 ·rw[kf A3,kf A3,e]
 by_cases A0:t.op=31
 ·rw[ij A0,ij A0,e]
 ·rw[vx A2 A1 A4 A3 A0,vx A2 A1 A4 A3 A0,e]
structure St (k:Nat)(m:Mk):Prop where
 jobs:JobsOk (jw m)
 len:m.ins.length+m.ws.length+na m.jobs≤k
 rg:0≤m.regs∧m.regs≤m.ins.length
 pt:m.puts≤m.ins.length
 nx:0≤m.next∧m.next≤m.ins.length
def aw (m:Mk)(r:List (Nat × T)):Mk:={ m with jobs:=r }
section
variable {k:Nat}{m:Mk}{j:Nat}{t:T}{r:List (Nat × T)}
theorem St.job (h:St k m)(e:m.jobs=(j,t)::r):j<m.ws.length∧t.letter=99∧bp t=true∧t.depth≤200:=h.jobs (j,t) (by show _∈m.jobs; rw[e]; exact List.mem_cons_self ..)
theorem St.fit (h:St k m)(e:m.jobs=(j,t)::r):Fit (m.ins.length+m.ws.length+na r) (aw m r).fresh∧m.ins.length+m.ws.length+na r+(8 * t.size - 2)≤k:=by
 have h1:=h.len;rw[e,na] at h1;have h2:=h.rg;have h3:=h.pt;refine⟨⟨Nat.le_refl _,?_,?_,?_,fun v x hx=>by cases hx⟩,by simp only at h1; omega⟩
 ·show(0:Int)≤0∧(0:Int)≤_; omega
 ·show 0≤m.regs∧m.regs≤_; omega
 ·show m.puts≤_; omega
theorem zee (sh:Bool):wait sh j t (aw m r)=wait sh j t (aw m r).fresh:=zwr rfl
theorem St.next (h:St k m)(e:m.jobs=(j,t)::r)(sh:Bool):St k (wait sh j t (aw m r)):=by
 obtain⟨hj,hx,hw,hd⟩:=h.job e;obtain⟨hf,hk⟩:=h.fit e;have A0:=zss sh j t hf hx hw;rw[←zee] at A0;have hg:=zlt sh j t (aw m r);have hl:(waitIn j (aw m r)).ins.length=m.ins.length:=rfl;have hn:(waitIn j (aw m r)).next=0:=rfl;have hr:(waitIn j (aw m r)).regs=m.regs:=rfl;have hp:(waitIn j (aw m r)).puts=m.puts:=rfl;have g1:=hg.ln;have g2:=hg.rg;have g3:=hg.pt;have g4:=hg.nx;have g5:=hg.sl;rw[hl] at g1 g2 g3 g4 g5;rw[hn] at g2 g4;rw[hr] at g2;rw[hp] at g3;have h2:=h.rg;have h3:=h.pt;have h4:=A0.rg;have h6:=A0.nx;refine⟨zqn sh j t (aw m r) hx hw hd ?_,by have:=A0.len; omega,by omega,by omega,by omega⟩;intro x A1;exact h.jobs x (by show x∈m.jobs; rw[e]; exact List.mem_cons_of_mem _ A1)
theorem St.tot (h:St k m)(e:m.jobs=(j,t)::r)(sh:Bool):Gf.tot (wait sh j t (aw m r)).jobs+1≤Gf.tot m.jobs:=by
 obtain⟨hj,hx,hw,hd⟩:=h.job e
 have:=zig sh j t (aw m r) hx hw;rw[e,Gf.tot];have h1:(jw (aw m r)).1=r:=rfl;rw[h1] at this;show Gf.tot (jw (wait sh j t (aw m r))).1+1≤t.size+Gf.tot r
 omega
end
theorem zdl {sh:Bool}{n:Nat}{m:Mk}{j:Nat}{t:T}{r:List (Nat × T)}(e:m.jobs=(j,t)::r):run sh (n+1) m=run sh n (wait sh j t (aw m r)):=by
 rw[run];split
 ·rename_i h; rw[e] at h; cases h
 ·rename_i j' t' r' h;rw[e] at h;cases h;rfl
theorem xx {sh:Bool}{n:Nat}{m:Mk}(e:m.jobs=[]):run sh n m=m:=by
 cases n with
 |zero=>rfl
 |succ n=>
  rw[run];split
  ·rfl
  ·rename_i h; rw[e] at h; cases h
theorem zmc {P:Mk→Prop}(sh:Bool){k:Nat}(hP:∀ m j t r,St k m→P m→m.jobs=(j,t)::r→P (wait sh j t (aw m r))):∀(n:Nat) (m:Mk),St k m→P m→Gf.tot m.jobs≤n→P (run sh n m)∧St k (run sh n m)∧(run sh n m).jobs=[]:=by
 intro n;induction n with
 |zero=>
  intro m h hp hn;have e:m.jobs=[]:=by
   cases hj:m.jobs with
   |nil=>rfl
   |cons x r=>rw[hj,Gf.tot] at hn; have:=size_pos x.2; omega
  rw[xx e];exact⟨hp,h,e⟩
 |succ n ih=>
  intro m h hp hn;cases hj:m.jobs with
  |nil=>rw[xx hj]; exact⟨hp,h,hj⟩
  |cons x r=>
   obtain⟨j,t⟩:=x;rw[zdl hj]
   have:=h.tot hj sh;exact ih _ (h.next hj sh) (hP m j t r h hp hj) (by omega)
theorem zg (sh:Bool)(t:T)(hx:t.letter=99)(hd:t.depth≤200):St (8 * t.size+1) (con sh 200 t mk0).fin∧Gf.tot (con sh 200 t mk0).fin.jobs≤t.size:=by
 have h0:Fit 0 mk0:=⟨Nat.le_refl _,by decide,by decide,Nat.le_refl _,fun v r e=>by cases e⟩
 have hf:=(cx sh 200 t mk0 0 hx h0).fin;have hg:=(zrt sh 200 t mk0).fin;have ht:=qc sh 200 t mk0 hx;have hj:=ni sh 200 t mk0 hx hd (fun x hx=>by cases hx);have g1:=hg.ln;have g2:=hg.rg;have g3:=hg.pt;have g4:=hg.nx;have e1:mk0.ins.length=0:=rfl;have e2:mk0.regs=0:=rfl;have e3:mk0.next=0:=rfl;have e4:mk0.puts=0:=rfl;rw[e1] at g1 g2 g3 g4;rw[e2,e3] at g2;rw[e3] at g4;rw[e4] at g3;have h4:=hf.rg;have h6:=hf.nx;have h5:=hf.len;have e5:(jw mk0).1=[]:=rfl;rw[e5,Gf.tot] at ht;refine⟨⟨hj,by omega,by omega,by omega,by omega⟩,?_⟩;show Gf.tot (jw (con sh 200 t mk0)).1≤_
 omega
end Gf
end
section
open Go.RowKit
namespace Sm
open Co Gen Dn Gf
structure EnvOk (E:Vm.Env):Prop where
 move:∀ a b,E.rk 18 a b=a
 neg:∀ a b c,E.rk 4 a b=E.rk 4 a c
 not:∀ a b c,E.rk 12 a b=E.rk 12 a c
def bv1 (E:Vm.Env)(op n:Int)(s:ByteArray)(vs:List (Option Int)):Option Int:=
 if op=1∨op=2∨op=3 then some n
 else if op=4 then E.feed s n
 else if op=5 then some (E.now n)
 else match vs.getD 0 none with
  |none=>none
  |some a=>
   if op=15 then(if a=0 then some 0 else vs.getD 1 none)
   else if op=16 then(if a=0 then vs.getD 1 none else some a)
   else if op=22 then(if a=0 then vs.getD 2 none else vs.getD 1 none)
   else if op=6∨op=14 then some (E.rk (ai op) a 0)
   else match vs.getD 1 none with
    |none=>none
    |some b=>some (E.rk (ai op) a b)
mutual
def aq (E:Vm.Env):T→Option Int
 | .mk op n s ks=>bv1 E op n s (zal E ks)
def zal (E:Vm.Env):List T→List (Option Int)
 | []=>[]
 |k::r=>aq E k::zal E r
end
theorem zhj (E:Vm.Env)(ks:List T):zal E ks=ks.map (aq E):=by
 induction ks with
 |nil=>rfl
 |cons a r ih=>rw[zal,ih]; rfl
section
variable {E:Vm.Env}{op n:Int}{s:ByteArray}{a b c:T}{ks:List T}
theorem pl (h:op=1∨op=2∨op=3):aq E (.mk op n s ks)=some n:=by rw[aq,bv1,if_pos h]
theorem zhl:aq E (.mk 4 n s ks)=E.feed s n:=by rw[aq,bv1,if_neg (by omega),if_pos rfl]
theorem zdz:aq E (.mk 5 n s ks)=some (E.now n):=by rw[aq,bv1,if_neg (by omega),if_neg (by omega),if_pos rfl]
theorem pm:aq E (.mk 15 n s [a,b])=(match aq E a with|none=>none|some x=>if x=0 then some 0 else aq E b):=by
 rw[aq,bv1,if_neg (by omega),if_neg (by omega),if_neg (by omega)];show(match aq E a with|none=>none|some a=>_)=_
 cases aq E a with
 |none=>rfl
 |some x=>simp only[if_pos]; rfl
theorem rn:aq E (.mk 16 n s [a,b])=(match aq E a with|none=>none|some x=>if x=0 then aq E b else some x):=by
 rw[aq,bv1,if_neg (by omega),if_neg (by omega),if_neg (by omega)];show(match aq E a with|none=>none|some a=>_)=_
 cases aq E a with
 |none=>rfl
 |some x=>simp only[if_neg (show ¬(16:Int)=15 by decide),if_pos]; rfl
theorem uf:aq E (.mk 22 n s [a,b,c])=(match aq E a with|none=>none|some x=>if x=0 then aq E c else aq E b):=by
 rw[aq,bv1,if_neg (by omega),if_neg (by omega),if_neg (by omega)];show(match aq E a with|none=>none|some a=>_)=_
 cases aq E a with
 |none=>rfl
 |some x=>simp only[if_neg (show ¬(22:Int)=15 by decide),if_neg (show ¬(22:Int)=16 by decide),if_pos]; rfl
theorem rp (h:op=6∨op=14):aq E (.mk op n s [a])=(match aq E a with|none=>none|some x=>some (E.rk (ai op) x 0)):=by
 rw[aq,bv1,if_neg (by omega),if_neg (by omega),if_neg (by omega)];show(match aq E a with|none=>none|some a=>_)=_
 cases aq E a with
 |none=>rfl
 |some x=>simp only[if_neg (show ¬op=15 by omega),if_neg (show ¬op=16 by omega),if_neg (show ¬op=22 by omega),if_pos h]
theorem rm (h:ct op):aq E (.mk op n s [a,b])=(match aq E a with|none=>none|some x=>match aq E b with|none=>none|some y=>some (E.rk (ai op) x y)):=by
 unfold ct at h;rw[aq,bv1,if_neg (by omega),if_neg (by omega),if_neg (by omega)];show(match aq E a with|none=>none|some a=>_)=_
 cases aq E a with
 |none=>rfl
 |some x=>
  by_cases A0:op=22
  ·omega
  ·by_cases h6:op=6
   ·omega
   ·simp only[if_neg (show ¬op=15 by omega),if_neg (show ¬op=16 by omega),if_neg A0,if_neg (show ¬(op=6∨op=14) by omega)];rfl
end
theorem zhk (E:Vm.Env)(t:T):Obs t→cr t=false→∃ v,aq E t=some v:=by
 induction t using T.ind with|h op n s ks ih=>?_
 intro ht hf;rw[fy,Bool.or_eq_false_iff] at hf;have hk:∀ k∈ks,cr k=false:=fun k hk=>by have:=List.any_eq_false.1 hf.2 k hk; simpa using this
 rcases cy ht with h1|⟨rfl, -⟩|⟨rfl, -⟩|⟨h1,a,rfl,ha, -⟩|⟨h1,a,b,rfl,ha,hb⟩|⟨rfl,a,b,c,rfl,ha,hb,hc⟩|⟨h1,a,b,rfl,ha,hb⟩
 ·exact⟨n,pl h1⟩
 ·simp at hf
 ·exact⟨_,zdz⟩
 ·obtain⟨x,hx⟩:=ih a (by simp) ha (hk a (by simp));exact⟨_,by rw[rp h1,hx]⟩
 ·obtain⟨x,hx⟩:=ih a (by simp) (cf ha) (hk a (by simp));obtain⟨y,hy⟩:=ih b (by simp) hb (hk b (by simp));rcases h1 with rfl|rfl
  ·by_cases h0:x=0
   ·exact⟨0,by rw[pm,hx]; simp only[if_pos h0]⟩
   ·exact⟨y,by rw[pm,hx]; simp only[if_neg h0]; exact hy⟩
  ·by_cases h0:x=0
   ·exact⟨y,by rw[rn,hx]; simp only[if_pos h0]; exact hy⟩
   ·exact⟨x,by rw[rn,hx]; simp only[if_neg h0]⟩
 ·obtain⟨x,hx⟩:=ih a (by simp) (cf ha) (hk a (by simp));obtain⟨y,hy⟩:=ih b (by simp) hb (hk b (by simp));obtain⟨z,hz⟩:=ih c (by simp) hc (hk c (by simp));by_cases h0:x=0
  ·exact⟨z,by rw[uf,hx]; simp only[if_pos h0]; exact hz⟩
  ·exact⟨y,by rw[uf,hx]; simp only[if_neg h0]; exact hy⟩
 ·obtain⟨x,hx⟩:=ih a (by simp) ha (hk a (by simp));obtain⟨y,hy⟩:=ih b (by simp) hb (hk b (by simp));exact⟨_,by rw[rm h1,hx,hy]⟩
abbrev R:=List (T × Int) × List (ByteArray × Int)
def ki:R:=([],[])
def km (t:T)(f:Int):R:=([(t,f)],[])
def zca (x y:R):R:=(x.1++y.1,x.2++y.2)
def zx (fs:List (Int→R))(i:Nat)(f:Int):R:=(fs.getD i fun _=>ki) f
def qah (E:Vm.Env)(op n:Int)(s:ByteArray)(t:T)(o:Option Int)(fs:List (Int→R))(f:Int):R:=
 if op=24 then([],if f=0 then [] else [(s,f)])
 else if op=25 then zx fs 0 (E.neg f)
 else if op=27 then zca (zx fs 0 f) (zx fs 1 (E.clamp f))
 else if op=26 then(match o with|none=>km t f|some x=>zx fs 1 (E.mul f x))
 else if op=28 then(match o with|none=>km t f|some x=>if x=0 then zx fs 2 f else zx fs 1 f)
 else if op=29 then(if E.day<n then km t f else zx fs 0 f)
 else if op=30 then(if n<E.day then ki else match o with|none=>km t f|some x=>if x=0 then km t f else zx fs 1 f)
 else if op=31 then(if n<E.day then zx fs 1 f else km t f)
 else ki
mutual
def den (E:Vm.Env):T→Int→R
 | .mk op n s ks=>qah E op n s (.mk op n s ks) ((zal E ks).getD 0 none) (zyt E ks)
def zyt (E:Vm.Env):List T→List (Int→R)
 | []=>[]
 |k::r=>den E k::zyt E r
end
section
variable {E:Vm.Env}{n f:Int}{s:ByteArray}{o a b:T}{ks:List T}
theorem zjy:den E (.mk 23 n s ks) f=ki:=by rw[den]; rfl
theorem zrp:den E (.mk 24 n s ks) f=([],if f=0 then [] else [(s,f)]):=by rw[den]; rfl
theorem vg:den E (.mk 25 n s [a]) f=den E a (E.neg f):=by rw[den]; rfl
theorem yp:den E (.mk 27 n s [a,b]) f=zca (den E a f) (den E b (E.clamp f)):=by rw[den]; rfl
theorem yt:den E (.mk 26 n s [o,a]) f=(match aq E o with|none=>km (.mk 26 n s [o,a]) f|some x=>den E a (E.mul f x)):=by rw[den]; rfl
theorem vd:den E (.mk 28 n s [o,a,b]) f=(match aq E o with|none=>km (.mk 28 n s [o,a,b]) f|some x=>if x=0 then den E b f else den E a f):=by rw[den]; rfl
theorem vc:den E (.mk 29 n s [a]) f=if E.day<n then km (.mk 29 n s [a]) f else den E a f:=by rw[den]; rfl
theorem yo:den E (.mk 30 n s [o,a]) f=if n<E.day then ki else(match aq E o with|none=>km (.mk 30 n s [o,a]) f|some x=>if x=0 then km (.mk 30 n s [o,a]) f else den E a f):=by rw[den]; rfl
theorem zfa:den E (.mk 31 n s [a,b]) f=if n<E.day then den E b f else km (.mk 31 n s [a,b]) f:=by rw[den]; rfl
end
end Sm
end
section
open Go.RowKit
namespace Sm
open Co Gen Dn Gf
theorem zwz (x y d:Nat):Num.scl x y d≤1000000000000000:=by unfold Num.scl; split<;>omega
theorem zwx (b:Bool)(n:Nat)(h:n≤1000000000000000):Num.clamp (Num.sgn b n)=Num.sgn b n:=by unfold Num.sgn; split<;>exact Num.clamp_in (by omega) (by omega)
theorem zqd (a b:Int):Num.clamp (Num.mul a b)=Num.mul a b:=zwx _ _ (zwz _ _ _)
theorem zqb (a:Int):Num.clamp (Num.neg a)=Num.neg a:=by unfold Num.neg; rw[Num.clamp_neg,Num.clamp_clamp]
theorem zrj (F:List Fd.Feed)(day:Int):EnvOk (Vm.env F day) where
 move a b:=by show Vm.rk 18 a b=a; unfold Vm.rk; simp
 neg a b c:=by show Vm.rk 4 a b=Vm.rk 4 a c; unfold Vm.rk; rw[if_pos rfl,if_pos rfl]
 not a b c:=by show Vm.rk 12 a b=Vm.rk 12 a c; unfold Vm.rk; rw[if_neg (show ¬(12:Int)=4 by decide),if_pos rfl,if_neg (show ¬(12:Int)=4 by decide),if_pos rfl]
theorem ym (F:List Fd.Feed)(day:Int)(t:T):t.letter=99→∀ f,Num.clamp f=f→∀ x∈(den (Vm.env F day) t f).1,Num.clamp x.2=x.2:=by
 induction t using T.ind with|h op n s ks ih=>?_
 intro hx f hf;have hw:∀ t,∀ x∈(km t f).1,Num.clamp x.2=x.2:=fun t x hx=>by
  have:x=(t,f):=by simpa [km] using hx
  subst this;exact hf
 have hn:∀ x∈(ki:R).1,Num.clamp x.2=x.2:=fun x hx=>by cases hx
 rcases bz hx with(⟨rfl,rfl⟩|⟨rfl,rfl⟩)|⟨h1,a,rfl,ha⟩|⟨rfl,o,a,rfl,ho,ha⟩|⟨h1,a,b,rfl,ha,hb⟩|⟨rfl,o,a,b,rfl,ho,ha,hb⟩|⟨rfl,o,a,rfl,ho,ha⟩
 ·rw[zjy]; exact hn
 ·rw[zrp]; intro x hx; cases hx
 ·rcases h1 with rfl|rfl
  ·rw[vg]; exact ih a (by simp) ha _ (zqb f)
  ·rw[vc]; split
   ·exact hw _
   ·exact ih a (by simp) ha _ hf
 ·rw[yt];cases aq (Vm.env F day) o with
  |none=>exact hw _
  |some v=>exact ih a (by simp) ha _ (zqd f v)
 ·rcases h1 with rfl|rfl
  ·rw[yp];intro x hx;rcases List.mem_append.1 (show x∈(den (Vm.env F day) a f).1++(den (Vm.env F day) b (Num.clamp f)).1 from hx) with h|h
   ·exact ih a (by simp) ha _ hf x h
   ·exact ih b (by simp) hb _ (Num.clamp_clamp f) x h
  ·rw[zfa]; split
   ·exact ih b (by simp) hb _ hf
   ·exact hw _
 ·rw[vd];cases aq (Vm.env F day) o with
  |none=>exact hw _
  |some v=>
   simp only;split
   ·exact ih b (by simp) hb _ hf
   ·exact ih a (by simp) ha _ hf
 ·rw[yo]; split
  ·exact hn
  ·cases aq (Vm.env F day) o with
   |none=>exact hw _
   |some v=>
    simp only;split
    ·exact hw _
    ·exact ih a (by simp) ha _ hf
end Sm
end
section
open Go.RowKit
namespace Sm
open Co Gen Dn Gf
theorem zxd {op:Int}(h:ct op)(a b:Int):Vm.rk (ai op) a b=Dn.rk op a b:=by
 unfold ct at h;rcases(by omega:op=7∨op=8∨op=9∨op=10∨op=11∨op=12∨op=13∨op=17∨op=18∨op=19∨op=20∨op=21) with rfl|rfl|rfl|rfl|rfl|rfl|rfl|rfl|rfl|rfl|rfl|rfl<;>simp[Vm.rk,Dn.rk,ai,Vm.truth,tr]
theorem zoi {F:List Fd.Feed}(day:Int)(hF:Fd.Ok F)(t:T):Obs t→aq (Vm.env F day) t=value (xh F day) t:=by
 induction t using T.ind with|h op n s ks ih=>?_
 intro ht;have hb:∀ {a:T} {x:Int},a.letter=98→value (xh F day) a=some x→x=0∨x=1:=fun ha hv=>(zih (zmn hF day) _ 98 _ ha (by decide) (by decide) hv).1 rfl;rcases cy ht with h1|⟨rfl, -⟩|⟨rfl, -⟩|⟨h1,a,rfl,ha,hl⟩|⟨h1,a,b,rfl,ha,A0⟩|⟨rfl,a,b,c,rfl,ha,A0,hc⟩|⟨h1,a,b,rfl,ha,A0⟩
 ·rw[pl h1,lx,zmy,if_pos h1]
 ·rw[zhl,lx]; rfl
 ·rw[zdz,lx]; rfl
 ·rw[rp h1,ih a (by simp) ha,pe (by omega)];show _=tf op (value _ a) _
  cases hv:value (xh F day) a with
  |none=>rfl
  |some x=>
   rcases h1 with rfl|rfl
   ·rfl
   ·rcases hb (hl rfl) hv with rfl|rfl<;>rfl
 ·have ia:=ih a (by simp) (cf ha);have ib:=ih b (by simp) A0;rcases h1 with rfl|rfl
  ·rw[pm,ia,ib,pe (by omega)];show _=tf 15 (value _ a) _
   cases hv:value (xh F day) a with
   |none=>rfl
   |some x=>rcases hb ha hv with rfl|rfl<;>rfl
  ·rw[rn,ia,ib,pe (by omega)];show _=tf 16 (value _ a) _
   cases hv:value (xh F day) a with
   |none=>rfl
   |some x=>rcases hb ha hv with rfl|rfl<;>rfl
 ·have ia:=ih a (by simp) (cf ha);have ib:=ih b (by simp) A0;have ic:=ih c (by simp) hc;rw[uf,ia,ib,ic,pe (by omega)];show _=tf 22 (value _ a) _
  cases hv:value (xh F day) a with
  |none=>rfl
  |some x=>rcases hb ha hv with rfl|rfl<;>rfl
 ·rw[rm h1,ih a (by simp) ha,ih b (by simp) A0,pe (by unfold ct at h1; omega)];show _=tf op (value _ a) _
  cases value (xh F day) a with
  |none=>rfl
  |some x=>
   have h2:=h1;unfold ct at h2;show _=after op x [_,_]
   unfold after;rw[if_neg (by omega),if_neg (by omega),if_neg (by omega),if_neg (by omega),if_neg (by omega)];show _=second op x (value (xh F day) b)
   cases value (xh F day) b with
   |none=>rfl
   |some y=>exact congrArg some (zxd h1 x y)
theorem zms {F:List Fd.Feed}{day:Int}(hF:Fd.Ok F){t:T}{v:Int}{x:UInt8}(hx:t.letter=x)(h0:x≠0)(h9:x≠99)(h:aq (Vm.env F day) t=some v):Ty x v:=by
 rw[zoi day hF t ⟨by rw[hx]; exact h0,by rw[hx]; exact h9⟩] at h;exact zih (zmn hF day) t x v hx h0 h9 h
theorem zdy {F:List Fd.Feed}{day:Int}(hF:Fd.Ok F){t:T}{v:Int}(hx:t.letter=110)(h:aq (Vm.env F day) t=some v):Num.clamp v=v:=by
 have:=(zms hF hx (by decide) (by decide) h).2.2;exact Num.clamp_in this.1 this.2
theorem zbz {F:List Fd.Feed}{day:Int}(hF:Fd.Ok F){t:T}{v:Int}(hx:t.letter=98)(h:aq (Vm.env F day) t=some v):v=0∨v=1:=(zms hF hx (by decide) (by decide) h).1 rfl
def OEq (t u:T):Prop:=∀(F:List Fd.Feed) (day:Int),Fd.Ok F→aq (Vm.env F day) t=aq (Vm.env F day) u
theorem OEq.trans {t u v:T}(h:OEq t u)(k:OEq u v):OEq t v:=fun F day hF=>(h F day hF).trans (k F day hF)
theorem zzq {op n:Int}{s:ByteArray}{ks:List T}{g:T→T}(h:∀ k∈ks,OEq k (g k)):OEq (.mk op n s ks) (.mk op n s (ks.map g)):=fun F day hF=>by
 have e:zal (Vm.env F day) (ks.map g)=zal (Vm.env F day) ks:=by
  rw[zhj,zhj,List.map_map];exact List.map_congr_left fun k hk=>(h k hk F day hF).symm
 rw[aq,aq,e]
theorem zib {E:Vm.Env}{k:T}(h:isC k=true):aq E k=some k.n:=by
 obtain⟨o,n,s,ks⟩:=k;refine pl ?_;have h':(o == 1 || o == 2 || o == 3)=true:=h;simpa [or_assoc] using h'
theorem qy {E:Vm.Env}{k:T}{n:Int}(h:isNum k n=true):aq E k=some n:=by
 obtain⟨o,m,s,ks⟩:=k;have h':(o == 1 && m == n)=true:=h;simp only[Bool.and_eq_true,beq_iff_eq] at h';obtain⟨rfl,rfl⟩:=h';exact pl (.inl rfl)
theorem jx {E:Vm.Env}{k:T}{n:Int}(h:isBool k n=true):aq E k=some n:=by
 obtain⟨o,m,s,ks⟩:=k;have h':(o == 2 && m == n)=true:=h;simp only[Bool.and_eq_true,beq_iff_eq] at h';obtain⟨rfl,rfl⟩:=h';exact pl (.inr (.inl rfl))
theorem zdq {E:Vm.Env}{o n:Int}(h:o=1∨o=2∨o=3):aq E (leaf o n)=some n:=pl h
theorem zuy {E:Vm.Env}{op a b:Int}{u:T}(h:ct op)(hu:foldOp op a b=some u):aq E u=some (Vm.rk (ai op) a b):=by
 unfold ct at h;rcases(by omega:op=7∨op=8∨op=9∨op=10∨op=11∨op=12∨op=13∨op=17∨op=18∨op=19∨op=20∨op=21) with rfl|rfl|rfl|rfl|rfl|rfl|rfl|rfl|rfl|rfl|rfl|rfl;all_goals
  simp[foldOp] at hu;subst hu;rw[zdq (by omega)];simp[Vm.rk,ai,Vm.truth,tr]
theorem zuz {t u:T}(h:fold t=some u)(hx:Obs t):∀(F:List Fd.Feed) (day:Int),aq (Vm.env F day) t=aq (Vm.env F day) u:=by
 intro F day;unfold fold at h;split at h
 ·rename_i hc;obtain⟨op,n,s,ks⟩:=t;have hl:ks.length≤2:=hc.1;have hk:ks.all isC=true:=hc.2;have h:foldOp op (kidN (.mk op n s ks) 0) (kidN (.mk op n s ks) 1)=some u:=h;rcases cy hx with h1|⟨rfl, -⟩|⟨rfl, -⟩|⟨h1,a,rfl,ha,A1⟩|⟨h1,a,b,rfl,ha,A0⟩|⟨rfl,a,b,c,rfl,ha,A0,A2⟩|⟨h1,a,b,rfl,ha,A0⟩
  ·exfalso; rcases h1 with rfl|rfl|rfl<;>simp[foldOp] at h
  ·exfalso; simp[foldOp] at h
  ·exfalso; simp[foldOp] at h
  ·have ca:isC a=true:=by simpa using hk
   have e0:kidN (.mk op n s [a]) 0=a.n:=rfl;rw[e0] at h;rw[rp h1,zib ca];rcases h1 with rfl|rfl
   ·have h:some (leaf 1 (Num.neg a.n))=some u:=h;obtain rfl:=Option.some.inj h;rw[zdq (.inl rfl)]; rfl
   ·have h:some (leaf 2 (tr (decide (a.n=0))))=some u:=h;obtain rfl:=Option.some.inj h;rw[zdq (.inr (.inl rfl))]; rfl
  ·exfalso; rcases h1 with rfl|rfl<;>simp[foldOp] at h
  ·exfalso; simp at hl
  ·have⟨ca,cb⟩:isC a=true∧isC b=true:=by simpa using hk
   have e0:kidN (.mk op n s [a,b]) 0=a.n:=rfl;have e1:kidN (.mk op n s [a,b]) 1=b.n:=rfl;rw[e0,e1] at h;rw[rm h1,zib ca,zib cb];exact(zuy h1 h).symm
 ·cases h
theorem qg:Num.clamp 1000000=1000000:=Num.clamp_in (by decide) (by decide)
theorem zdj (a:Int):Num.sgn (decide (Num.clamp a<0)) (Num.clamp a).natAbs=Num.clamp a:=by
 unfold Num.sgn;by_cases h:Num.clamp a<0
 ·rw[decide_eq_true h,if_pos rfl]; omega
 ·rw[decide_eq_false h,if_neg (by decide)]; omega
theorem zgd (a:Int):(Num.clamp a).natAbs≤1000000000000000:=by have:=Num.clamp_le a; have:=Num.clamp_ge a; omega
theorem zdk (x:Nat)(h:x≤1000000000000000):Num.scl x 1000000 1000000=x:=by
 unfold Num.scl;rw[Nat.mul_div_cancel x (by decide:0<1000000),Nat.mul_mod_left];have h2:x * 1000000 / 18446744073709551616<1000000:=by omega
 rw[if_pos h2];unfold Num.up;simp;omega
theorem zwi (b:Bool):(b != false)=b:=by cases b<;>rfl
theorem zzu (b:Bool):(false != b)=b:=by cases b<;>rfl
theorem zgw (a:Int):Num.mul a 1000000=Num.clamp a:=by
 unfold Num.mul;rw[qg,show decide ((1000000:Int)<0)=false by decide,zwi,show(1000000:Int).natAbs=1000000 from rfl,zdk _ (zgd a),zdj]
theorem zuf (a:Int):Num.mul 1000000 a=Num.clamp a:=by
 unfold Num.mul;have e:∀ x,Num.scl 1000000 x 1000000=Num.scl x 1000000 1000000:=fun x=>by unfold Num.scl; rw[Nat.mul_comm]
 rw[qg,show decide ((1000000:Int)<0)=false by decide,zzu,show(1000000:Int).natAbs=1000000 from rfl,e,zdk _ (zgd a),zdj]
theorem zrn (a:Int):Num.div a 1000000=Num.clamp a:=by
 unfold Num.div;rw[qg,if_neg (by decide),show decide ((1000000:Int)<0)=false by decide,zwi,show(1000000:Int).natAbs=1000000 from rfl,zdk _ (zgd a),zdj]
theorem zby:Num.clamp 0=0:=Num.clamp_in (by decide) (by decide)
theorem zse (a:Int):Num.add a 0=Num.clamp a:=by unfold Num.add; rw[zby,Int.add_zero,Num.clamp_clamp]
theorem zvu (a:Int):Num.add 0 a=Num.clamp a:=by unfold Num.add; rw[zby,Int.zero_add,Num.clamp_clamp]
theorem zox (a:Int):Num.sub a 0=Num.clamp a:=by unfold Num.sub; rw[zby,Int.sub_zero,Num.clamp_clamp]
theorem zgv (a:Int):Num.neg (Num.neg a)=Num.clamp a:=by unfold Num.neg; rw[Num.clamp_neg,Num.clamp_clamp,Int.neg_neg]
theorem zjw (F:List Fd.Feed)(day:Int):(Vm.env F day).rk=Vm.rk:=rfl
theorem zpj (a b:Int):Vm.rk 4 a b=Num.neg a:=by unfold Vm.rk; rw[if_pos rfl]
theorem zpi (a b:Int):Vm.rk 12 a b=Vm.truth (decide (a=0)):=by unfold Vm.rk; rw[if_neg (show ¬(12:Int)=4 by decide),if_pos rfl]
theorem zov {t u:T}(h:twice t=some u)(hx:Obs t):OEq t u:=by
 intro F day hF;unfold twice at h;split at h
 ·rename_i hc;obtain⟨ho,hk⟩:=hc;cases h;obtain⟨op,n,s,ks⟩:=t;have ho:op=6∨op=14∨op=25:=ho;have A8:op≠25:=by
   rintro rfl;rcases cy hx with h1|⟨h1, -⟩|⟨h1, -⟩|⟨h1, -⟩|⟨h1, -⟩|⟨h1, -⟩|⟨h1, -⟩<;>first|omega|(unfold ct at h1; omega)
  have go:∀(x:UInt8),de op=some ([x],x)→x≠0→(∀ v b,b.letter=x→aq (Vm.env F day) b=some v→(Vm.rk (ai op) (Vm.rk (ai op) v 0) 0)=v)→(op=6∨op=14)→aq (Vm.env F day) (.mk op n s ks)=aq (Vm.env F day) ((T.kid (.mk op n s ks) 0).kid 0):=by
   intro x hw A3 hv h1;obtain⟨l1,l2, -⟩:=open_kids (t:=.mk op n s ks) (by show op≠22; omega) hw hx.1;obtain⟨k,A0,A5,A4⟩:=one_kid l1;rw[A4] at hk ⊢;have A0:ks=[k]:=A0;subst A0;obtain⟨o2,n2,s2,A2⟩:=k;have hk:o2=op:=hk;subst hk;obtain⟨l3, -, -⟩:=open_kids (t:=.mk o2 n2 s2 A2) (by show o2≠22; omega) hw (by rw[A5]; exact A3);obtain⟨j,A1,A7,A6⟩:=one_kid l3;rw[A6];have A1:A2=[j]:=A1;subst A1;rw[rp h1,rp h1];cases hb:aq (Vm.env F day) j with
   |none=>rfl
   |some v=>
    show some ((Vm.env F day).rk (ai o2) ((Vm.env F day).rk (ai o2) v 0) 0)=some v
    rw[zjw,hv v j A7 hb]
  rcases ho with rfl|rfl|h1
  ·exact go 110 want_6 (by decide) (fun v b hb hv=>by rw[show ai 6=4 from rfl,zpj,zpj,zgv]; exact zdy hF hb hv) (.inl rfl)
  ·exact go 98 want_14 (by decide) (fun v b hb hv=>by rw[show ai 14=12 from rfl,zpi,zpi]; rcases zbz hF hb hv with rfl|rfl<;>rfl) (.inr rfl)
  ·exact absurd h1 A8
 ·cases h
theorem zmk {t:T}(h:t.ks.length=2):∃ a b,t.ks=[a,b]∧t.kid 0=a∧t.kid 1=b:=by
 match hk:t.ks with
 | [a,b]=>exact⟨a,b,rfl,by simp[T.kid,hk],by simp[T.kid,hk]⟩
 | []=>rw[hk] at h; cases h
 | [_]=>rw[hk] at h; simp at h
 |_::_::_::_=>rw[hk] at h; simp at h
theorem zpl (a b:Int):Vm.rk 5 a b=Num.add a b:=by simp[Vm.rk]
theorem zyf (a b:Int):Vm.rk 6 a b=Num.sub a b:=by simp[Vm.rk]
theorem zpk (a b:Int):Vm.rk 7 a b=Num.mul a b:=by simp[Vm.rk]
theorem zyg (a b:Int):Vm.rk 8 a b=Num.div a b:=by simp[Vm.rk]
theorem zux {t u:T}(h:idle t=some u)(hx:Obs t):OEq t u:=by
 intro F day hF;unfold idle at h;split at h
 ·rename_i A0;obtain⟨a,b,hk,ka,kb⟩:=zmk A0;rw[ka,kb] at h;obtain⟨op,n,s,ks⟩:=t;have hk:ks=[a,b]:=hk;subst hk;have same:∀(x:UInt8),op≠22→de op=some ([x,x],x)→a.letter=x∧b.letter=x:=by
   intro x A1 hw;obtain⟨h1, -, -⟩:=open_kids (t:=.mk op n s [a,b]) A1 hw hx.1;have h1:[a.letter,b.letter]=[x,x]:=h1;simpa using h1
  have no:op≠26∧op≠27:=by
   constructor<;>rintro rfl<;>rcases cy hx with h1|⟨h1, -⟩|⟨h1, -⟩|⟨h1, -⟩|⟨h1, -⟩|⟨h1, -⟩|⟨h1, -⟩<;>first|omega|(unfold ct at h1; omega)
  have two:∀(hw:de op=some ([110,110],110)) (h2:ct op) (x:Int),(aq (Vm.env F day) a=some x→(∀ y,Vm.rk (ai op) x y=Num.clamp y)→aq (Vm.env F day) (.mk op n s [a,b])=aq (Vm.env F day) b)∧(aq (Vm.env F day) b=some x→(∀ y,Vm.rk (ai op) y x=Num.clamp y)→aq (Vm.env F day) (.mk op n s [a,b])=aq (Vm.env F day) a):=by
   intro hw h2 x;obtain⟨la,lb⟩:=same 110 (by unfold ct at h2; intro e; subst e; simp[want_22] at hw) hw;constructor
   ·intro hv hr;rw[rm h2,hv];cases hb:aq (Vm.env F day) b with
    |none=>rfl
    |some y=>
     show some ((Vm.env F day).rk (ai op) x y)=some y
     rw[zjw,hr y,zdy hF lb hb]
   ·intro hv hr;rw[rm h2,hv];cases ha:aq (Vm.env F day) a with
    |none=>rfl
    |some y=>
     show some ((Vm.env F day).rk (ai op) y x)=some y
     rw[zjw,hr y,zdy hF la ha]
  have tw:∀ {o:Int},o=op→(o=7∨o=8∨o=9∨o=10)→ct op:=fun e ho=>by unfold ct; omega
  split at h
  ·rename_i hl;obtain rfl:=Option.some.inj h;have hl:idleL op a b=true:=hl;unfold idleL at hl;split at hl
   ·rename_i e; subst e; exact(two want_7 (by unfold ct; omega) 0).1 (qy hl) (fun y=>by rw[show ai 7=5 from rfl,zpl]; exact zvu y)
   split at hl
   ·rename_i e; subst e; exact(two want_9 (by unfold ct; omega) 1000000).1 (qy hl) (fun y=>by rw[show ai 9=7 from rfl,zpk]; exact zuf y)
   split at hl
   ·rename_i e; subst e; rw[pm,jx hl]; rfl
   split at hl
   ·rename_i e; subst e; rw[rn,jx hl]; rfl
   split at hl
   ·rename_i e; exact absurd e no.2
   split at hl
   ·rename_i e; exact absurd e no.1
   ·cases hl
  ·split at h
   ·rename_i hr;obtain rfl:=Option.some.inj h;have hr:idleR op a b=true:=hr;unfold idleR at hr;split at hr
    ·rename_i e; subst e; exact(two want_7 (by unfold ct; omega) 0).2 (qy hr) (fun y=>by rw[show ai 7=5 from rfl,zpl]; exact zse y)
    split at hr
    ·rename_i e; subst e; exact(two want_8 (by unfold ct; omega) 0).2 (qy hr) (fun y=>by rw[show ai 8=6 from rfl,zyf]; exact zox y)
    split at hr
    ·rename_i e; subst e; exact(two want_9 (by unfold ct; omega) 1000000).2 (qy hr) (fun y=>by rw[show ai 9=7 from rfl,zpk]; exact zgw y)
    split at hr
    ·rename_i e; subst e; exact(two want_10 (by unfold ct; omega) 1000000).2 (qy hr) (fun y=>by rw[show ai 10=8 from rfl,zyg]; exact zrn y)
    split at hr
    ·rename_i e;subst e;obtain⟨la,lb⟩:=same 98 (by decide) want_15;rw[pm,jx hr];cases ha:aq (Vm.env F day) a with
     |none=>rfl
     |some y=>rcases zbz hF la ha with rfl|rfl<;>rfl
    split at hr
    ·rename_i e;subst e;obtain⟨la,lb⟩:=same 98 (by decide) want_16;rw[rn,jx hr];cases ha:aq (Vm.env F day) a with
     |none=>rfl
     |some y=>rcases zbz hF la ha with rfl|rfl<;>rfl
    split at hr
    ·rename_i e; exact absurd e no.2
    ·cases hr
   ·cases h
 ·cases h
theorem zko {t u:T}(h:settled t=some u)(hx:Obs t):OEq t u:=by
 intro F day hF;unfold settled at h;split at h
 ·rename_i hc;cases h;obtain⟨op,n,s,ks⟩:=t;have A3:op≠25:=by
   rintro rfl;rcases cy hx with h1|⟨h1, -⟩|⟨h1, -⟩|⟨h1, -⟩|⟨h1, -⟩|⟨h1, -⟩|⟨h1, -⟩<;>first|omega|(unfold ct at h1; omega)
  rcases hc with⟨e,hb⟩|⟨e,hb⟩|⟨e, -⟩
  ·have e:op=15:=e;subst e;obtain⟨h1,h2, -⟩:=open_kids (t:=.mk 15 n s ks) (show(15:Int)≠22 by decide) want_15 hx.1;obtain⟨k,j,A0,A2,A1, -⟩:=two_kids h1;rw[A1] at hb ⊢;have A0:ks=[k,j]:=A0;subst A0;rw[pm,jx hb]; rfl
  ·have e:op=16:=e;subst e;obtain⟨h1,h2, -⟩:=open_kids (t:=.mk 16 n s ks) (show(16:Int)≠22 by decide) want_16 hx.1;obtain⟨k,j,A0,A2,A1, -⟩:=two_kids h1;rw[A1] at hb ⊢;have A0:ks=[k,j]:=A0;subst A0;rw[rn,jx hb]; rfl
  ·exact absurd e A3
 ·cases h
theorem zkf {k:T}(hl:k.letter=98)(ho:k.op=2):(k.n=0∧isBool k 0=true)∨(k.n=1∧isBool k 1=true):=by
 obtain⟨-, -,hf⟩:=open_kids (t:=k) (by rw[ho]; decide) (by rw[ho]; exact want_2) (by rw[hl]; decide);rw[ho] at hf;unfold isBool;rcases bool_of hf with e|e
 ·exact .inl ⟨e,by rw[ho,e]; rfl⟩
 ·exact .inr ⟨e,by rw[ho,e]; rfl⟩
theorem zoe {t u:T}(h:Co.chosen t=some u)(hx:Obs t):OEq t u:=by
 intro F day hF;unfold Co.chosen at h;split at h
 ·rename_i hc;obtain⟨ho,e2⟩:=hc;cases h;obtain⟨op,n,s,ks⟩:=t;have A0:op≠28:=by
   rintro rfl;rcases cy hx with h1|⟨h1, -⟩|⟨h1, -⟩|⟨h1, -⟩|⟨h1, -⟩|⟨h1, -⟩|⟨h1, -⟩<;>first|omega|(unfold ct at h1; omega)
  have ho:op=22:=ho.resolve_right A0;subst ho;obtain⟨a,b,c,rfl,l1,l2,l3, -, -⟩:=(letter_22 hx.1).1 rfl;have e2:a.op=2:=e2;show aq _ (.mk 22 n s [a,b,c])=aq _ (T.kid (.mk 22 n s [a,b,c]) (2 - a.n).toNat)
  rcases zkf l1 e2 with⟨e,hb⟩|⟨e,hb⟩
  ·rw[uf,jx hb,e]; rfl
  ·rw[uf,jx hb,e]; rfl
 ·cases h
theorem zxh {t:T}(hx:Obs t):t.op<23:=by
 obtain⟨op,n,s,ks⟩:=t;show op<23
 rcases cy hx with h1|⟨h1, -⟩|⟨h1, -⟩|⟨h1, -⟩|⟨h1, -⟩|⟨h1, -⟩|⟨h1, -⟩<;>first|omega|(unfold ct at h1; omega)
theorem zto {i:Nat}{t u:T}(h:rule i t=some u)(hx:Obs t):OEq t u:=by
 have hn:=zxh hx;unfold rule at h;split at h
 ·exact fun F day _=>zuz h hx F day
 ·exact zov h hx
 ·exact zux h hx
 ·exact zko h hx
 ·unfold later at h;rw[if_neg (by omega)] at h;cases h
 ·exact zoe h hx
 ·unfold never at h;rw[if_neg (by omega)] at h;cases h
 ·cases h
end Sm
end
section
open Go.RowKit
namespace Sm
open Co Gen Dn Gf
inductive Pw (P:T→T→Prop):List (T × Int)→List (T × Int)→Prop
 |nil:Pw P [] []
 |cons {t u:T} {f:Int} {l m:List (T × Int)}:P t u→Pw P l m→Pw P ((t,f)::l) ((u,f)::m)
structure Rel (P:T→T→Prop)(x y:R):Prop where
 out:x.2=y.2
 pw:Pw P x.1 y.1
def Den (P:T→T→Prop)(t u:T):Prop:=∀(F:List Fd.Feed) (day f:Int),Fd.Ok F→Num.clamp f=f→Rel P (den (Vm.env F day) t f) (den (Vm.env F day) u f)
def zjt (E:Vm.Env)(t:T)(f:Int):R:=if t.n<E.day then den E (t.kid 1) f else den E (t.kid 0) f
def qai (P:T→T→Prop)(t u:T):Prop:=t.op=31∧u.op=31∧t.s=u.s∧Den P (t.kid 1) (u.kid 1)∧∀(F:List Fd.Feed) (day f:Int),Fd.Ok F→Num.clamp f=f→Rel P (zjt (Vm.env F day) t f) (zjt (Vm.env F day) u f)
def Lv:Nat→T→T→Prop
 |0,_,_=>True
 |n+1,t,u=>Den (Lv n) t u∧(t.op=31∨u.op=31→qai (Lv n) t u)
def DenEq (t u:T):Prop:=∀ n,Den (Lv n) t u
section
variable {P Q S:T→T→Prop}
theorem Pw.refl (h:∀ t,P t t):∀ l:List (T × Int),Pw P l l
 | []=>.nil
 |(t,f)::r=>.cons (h t) (Pw.refl h r)
theorem Pw.symm (h:∀ t u,P t u→Q u t){l m:List (T × Int)}(k:Pw P l m):Pw Q m l:=by
 induction k with
 |nil=>exact .nil
 |cons a _ ih=>exact .cons (h _ _ a) ih
theorem Pw.trans (h:∀ t u v,P t u→Q u v→S t v){l m:List (T × Int)}(k:Pw P l m):∀ {q:List (T × Int)},Pw Q m q→Pw S l q:=by
 induction k with
 |nil=>intro q k; cases k; exact .nil
 |cons a _ ih=>intro q k; cases k with|cons b r=>exact .cons (h _ _ _ a b) (ih r)
theorem Pw.app {l m l' m':List (T × Int)}(h:Pw P l m)(k:Pw P l' m'):Pw P (l++l') (m++m'):=by
 induction h with
 |nil=>exact k
 |cons a _ ih=>exact .cons a ih
theorem Pw.len {l m:List (T × Int)}(h:Pw P l m):l.length=m.length:=by
 induction h with
 |nil=>rfl
 |cons _ _ ih=>rw[List.length_cons,List.length_cons,ih]
theorem Rel.refl (h:∀ t,P t t)(x:R):Rel P x x:=⟨rfl,Pw.refl h _⟩
theorem Rel.symm (h:∀ t u,P t u→Q u t){x y:R}(k:Rel P x y):Rel Q y x:=⟨k.out.symm,k.pw.symm h⟩
theorem Rel.trans (h:∀ t u v,P t u→Q u v→S t v){x y z:R}(k:Rel P x y)(l:Rel Q y z):Rel S x z:=⟨k.out.trans l.out,k.pw.trans h l.pw⟩
theorem mc {t u:T}(f:Int)(h:P t u):Rel P (km t f) (km u f):=⟨rfl,.cons h .nil⟩
theorem zts {x y x' y':R}(h:Rel P x y)(k:Rel P x' y'):Rel P (zca x x') (zca y y'):=⟨by unfold zca; rw[h.out,k.out],h.pw.app k.pw⟩
theorem zcz:Rel P ki ki:=⟨rfl,.nil⟩
end
theorem yg:∀ n t,Lv n t t
 |0,_=>trivial
 |n+1,t=>⟨fun F day f _ _=>Rel.refl (yg n) _,fun h=>⟨h.elim id id,h.elim id id,rfl,fun F day f _ _=>Rel.refl (yg n) _,fun F day f _ _=>Rel.refl (yg n) _⟩⟩
theorem zco:∀ n t u,Lv n t u→Lv n u t
 |0,_,_,_=>trivial
 |n+1,t,u,h=>⟨fun F day f hF hf=>(h.1 F day f hF hf).symm (zco n),fun k=>by
   obtain⟨a,b,c,d,e⟩:=h.2 k.symm;exact⟨b,a,c.symm,fun F day f hF hf=>(d F day f hF hf).symm (zco n),fun F day f hF hf=>(e F day f hF hf).symm (zco n)⟩⟩
theorem zt:∀ n t u v,Lv n t u→Lv n u v→Lv n t v
 |0,_,_,_,_,_=>trivial
 |n+1,t,u,v,h,k=>⟨fun F day f hF hf=>(h.1 F day f hF hf).trans (zt n) (k.1 F day f hF hf),fun q=>by
   have hu:u.op=31:=q.elim (fun e=>(h.2 (.inl e)).2.1) (fun e=>(k.2 (.inr e)).1);obtain⟨a,b,c,d,e⟩:=h.2 (.inr hu);obtain⟨a',b',c',d',e'⟩:=k.2 (.inl hu);exact⟨a,b',c.trans c',fun F day f hF hf=>(d F day f hF hf).trans (zt n) (d' F day f hF hf),fun F day f hF hf=>(e F day f hF hf).trans (zt n) (e' F day f hF hf)⟩⟩
theorem DenEq.refl (t:T):DenEq t t:=fun n F day f _ _=>Rel.refl (yg n) _
theorem DenEq.symm {t u:T}(h:DenEq t u):DenEq u t:=fun n F day f hF hf=>(h n F day f hF hf).symm (zco n)
theorem DenEq.trans {t u v:T}(h:DenEq t u)(k:DenEq u v):DenEq t v:=fun n F day f hF hf=>(h n F day f hF hf).trans (zt n) (k n F day f hF hf)
theorem yl {t u:T}(h:∀(F:List Fd.Feed) (day f:Int),Fd.Ok F→Num.clamp f=f→den (Vm.env F day) t f=den (Vm.env F day) u f):DenEq t u:=fun n F day f hF hf=>by
 rw[h F day f hF hf]; exact Rel.refl (yg n) _
theorem uo {t u:T}(h:∀ n,Lv n t u):DenEq t u:=fun n=>(h (n+1)).1
theorem yh {n:Nat}{t u:T}(h1:t.op≠31)(h2:u.op≠31)(h:Den (Lv n) t u):Lv (n+1) t u:=⟨h,fun k=>absurd k (by rintro (k|k); exact h1 k; exact h2 k)⟩
section
variable {n:Int}{s s':ByteArray}{o o' a a' b b':T}
theorem zxv (h:DenEq a a'):DenEq (.mk 25 n s [a]) (.mk 25 n s' [a']):=fun k F day f hF hf=>by
 rw[vg,vg];exact h k F day _ hF (zqb f)
theorem zxu (h:DenEq a a')(h':DenEq b b'):DenEq (.mk 27 n s [a,b]) (.mk 27 n s' [a',b']):=fun k F day f hF hf=>by
 rw[yp,yp];exact zts (h k F day f hF hf) (h' k F day _ hF (Num.clamp_clamp f))
theorem znn (h:DenEq a a'):∀ k,Lv k (.mk 29 n s [a]) (.mk 29 n s' [a'])
 |0=>trivial
 |k+1=>yh (show(29:Int)≠31 by decide) (show(29:Int)≠31 by decide) fun F day f hF hf=>by
  rw[vc,vc];by_cases hd:(Vm.env F day).day<n
  ·rw[if_pos hd,if_pos hd]; exact mc f (znn h k)
  ·rw[if_neg hd,if_neg hd]; exact h k F day f hF hf
theorem zwh (ho:OEq o o')(h:DenEq a a'):∀ k,Lv k (.mk 26 n s [o,a]) (.mk 26 n s' [o',a'])
 |0=>trivial
 |k+1=>yh (show(26:Int)≠31 by decide) (show(26:Int)≠31 by decide) fun F day f hF hf=>by
  rw[yt,yt,←ho F day hF];cases aq (Vm.env F day) o with
  |none=>exact mc f (zwh ho h k)
  |some x=>exact h k F day _ hF (zqd f x)
theorem zwg (ho:OEq o o')(h:DenEq a a')(h':DenEq b b'):∀ k,Lv k (.mk 28 n s [o,a,b]) (.mk 28 n s' [o',a',b'])
 |0=>trivial
 |k+1=>yh (show(28:Int)≠31 by decide) (show(28:Int)≠31 by decide) fun F day f hF hf=>by
  rw[vd,vd,←ho F day hF];cases aq (Vm.env F day) o with
  |none=>exact mc f (zwg ho h h' k)
  |some x=>
   by_cases hx:x=0
   ·simp only[if_pos hx]; exact h' k F day f hF hf
   ·simp only[if_neg hx]; exact h k F day f hF hf
theorem znm (ho:OEq o o')(h:DenEq a a'):∀ k,Lv k (.mk 30 n s [o,a]) (.mk 30 n s' [o',a'])
 |0=>trivial
 |k+1=>yh (show(30:Int)≠31 by decide) (show(30:Int)≠31 by decide) fun F day f hF hf=>by
  rw[yo,yo,←ho F day hF];by_cases hd:n<(Vm.env F day).day
  ·rw[if_pos hd,if_pos hd]; exact zcz
  ·rw[if_neg hd,if_neg hd];cases aq (Vm.env F day) o with
   |none=>exact mc f (znm ho h k)
   |some x=>
    by_cases hx:x=0
    ·simp only[if_pos hx]; exact mc f (znm ho h k)
    ·simp only[if_neg hx]; exact h k F day f hF hf
theorem zwf (h:DenEq a a')(h':DenEq b b'):∀ k,Lv k (.mk 31 n s [a,b]) (.mk 31 n s [a',b'])
 |0=>trivial
 |k+1=>by
  refine⟨fun F day f hF hf=>?_,fun _=>⟨rfl,rfl,rfl,h' k,fun F day f hF hf=>?_⟩⟩
  ·rw[zfa,zfa];by_cases hd:n<(Vm.env F day).day
   ·rw[if_pos hd,if_pos hd]; exact h' k F day f hF hf
   ·rw[if_neg hd,if_neg hd]; exact mc f (zwf h h' k)
  ·show Rel _ (if n<(Vm.env F day).day then den _ b f else den _ a f) (if n<(Vm.env F day).day then den _ b' f else den _ a' f)
   by_cases hd:n<(Vm.env F day).day
   ·rw[if_pos hd,if_pos hd]; exact h' k F day f hF hf
   ·rw[if_neg hd,if_neg hd]; exact h k F day f hF hf
end
theorem zzw {op n:Int}{s:ByteArray}{ks:List T}{g:T→T}(hx:(T.mk op n s ks).letter=99)(h:∀ k∈ks,(Obs k→OEq k (g k))∧(k.letter=99→DenEq k (g k))):DenEq (.mk op n s ks) (.mk op n s (ks.map g)):=by
 rcases bz hx with(⟨rfl,rfl⟩|⟨rfl,rfl⟩)|⟨h1,a,rfl,ha⟩|⟨rfl,o,a,rfl,ho,ha⟩|⟨h1,a,b,rfl,ha,hb⟩|⟨rfl,o,a,b,rfl,ho,ha,hb⟩|⟨rfl,o,a,rfl,ho,ha⟩
 ·exact DenEq.refl _
 ·exact DenEq.refl _
 ·have ga:=(h a (by simp)).2 ha;rcases h1 with rfl|rfl
  ·exact zxv ga
  ·exact uo (znn ga)
 ·exact uo (zwh ((h o (by simp)).1 (dc ho)) ((h a (by simp)).2 ha))
 ·have ga:=(h a (by simp)).2 ha;have gb:=(h b (by simp)).2 hb;rcases h1 with rfl|rfl
  ·exact zxu ga gb
  ·exact uo (zwf ga gb)
 ·exact uo (zwg ((h o (by simp)).1 (cf ho)) ((h a (by simp)).2 ha) ((h b (by simp)).2 hb))
 ·exact uo (znm ((h o (by simp)).1 (cf ho)) ((h a (by simp)).2 ha))
theorem zyo {t:T}(hx:t.letter=99):23≤t.op:=by
 obtain⟨op,n,s,ks⟩:=t;show 23≤op
 rcases bz hx with(⟨h, -⟩|⟨h, -⟩)|⟨h, -⟩|⟨h, -⟩|⟨h, -⟩|⟨h, -⟩|⟨h, -⟩<;>omega
theorem tq {t:T}(h:t.op=23)(E:Vm.Env)(f:Int):den E t f=ki:=by
 obtain⟨op,n,s,ks⟩:=t;have h:op=23:=h;subst h;exact zjy
theorem zyx (x:R):zca ki x=x:=rfl
theorem zyw (x:R):zca x ki=x:=by unfold zca ki; simp
theorem ztp {i:Nat}{t u:T}(h:rule i t=some u)(hx:t.letter=99):DenEq t u:=by
 have hn:=zyo hx;have h0:t.letter≠0:=by rw[hx]; decide
 unfold rule at h;split at h
 ·exfalso;unfold fold at h;split at h
  ·unfold foldOp at h;repeat rw[if_neg (by omega)] at h
   cases h
  ·cases h
 ·unfold twice at h;split at h
  ·rename_i hc;obtain⟨ho,hk⟩:=hc;cases h;have e:t.op=25:=by omega
   obtain⟨l1, -, -⟩:=open_kids (t:=t) (by rw[e]; decide) (by rw[e]; exact want_25) h0;obtain⟨k,A0,A2,A1⟩:=one_kid l1;rw[A1,e] at hk;rw[A1];obtain⟨l3, -, -⟩:=open_kids (t:=k) (by rw[hk]; decide) (by rw[hk]; exact want_25) (by rw[A2]; decide);obtain⟨j,A3,A8,A6⟩:=one_kid l3;rw[A6];obtain⟨op,n,s,ks⟩:=t;obtain⟨o2,n2,s2,A4⟩:=k;have e:op=25:=e;have hk:o2=25:=hk;have A0:ks=[T.mk o2 n2 s2 A4]:=A0;have A3:A4=[j]:=A3;subst e hk A0 A3;refine yl fun F day f hF hf=>?_;rw[vg,vg];show den _ j (Num.neg (Num.neg f))=_
   rw[zgv,hf]
  ·cases h
 ·unfold idle at h;split at h
  ·rename_i A5;obtain⟨a,b,hk,ka,kb⟩:=zmk A5;rw[ka,kb] at h;obtain⟨op,n,s,ks⟩:=t;have hk:ks=[a,b]:=hk;subst hk;have hn:23≤op:=hn;split at h
   ·rename_i hl;obtain rfl:=Option.some.inj h;replace hl:idleL op a b=true:=hl;unfold idleL at hl;rw[if_neg (by omega),if_neg (by omega),if_neg (by omega),if_neg (by omega)] at hl;split at hl
    ·rename_i e;subst e;have hl:a.op=23:=by simpa using hl
     refine yl fun F day f hF hf=>?_;rw[yp,tq hl,zyx];show den _ b (Num.clamp f)=_
     rw[hf]
    split at hl
    ·rename_i e;subst e;refine yl fun F day f hF hf=>?_;rw[yt];rcases Bool.or_eq_true_iff.1 hl with h1|h1
     ·rw[qy h1];show den _ b (Num.mul f 1000000)=_
      rw[zgw,hf]
     ·have⟨h2,h3⟩:a.op=1∧b.op=23:=by simpa using h1
      have hv:aq (Vm.env F day) a=some a.n:=zib (by unfold isC; rw[h2]; rfl);rw[hv];show den _ b _=_
      rw[tq h3,tq h3]
    ·cases hl
   ·split at h
    ·rename_i hr;obtain rfl:=Option.some.inj h;replace hr:idleR op a b=true:=hr;unfold idleR at hr;rw[if_neg (by omega),if_neg (by omega),if_neg (by omega),if_neg (by omega),if_neg (by omega),if_neg (by omega)] at hr;split at hr
     ·rename_i e;subst e;have hr:b.op=23:=by simpa using hr
      refine yl fun F day f hF hf=>?_;rw[yp,tq hr,zyw]
     ·cases hr
    ·cases h
  ·cases h
 ·unfold settled at h;split at h
  ·rename_i hc;cases h;rcases hc with⟨e, -⟩|⟨e, -⟩|⟨e,hz⟩
   ·omega
   ·omega
   ·obtain⟨l1, -, -⟩:=open_kids (t:=t) (by rw[e]; decide) (by rw[e]; exact want_25) h0;obtain⟨k,A0,A2,A1⟩:=one_kid l1;rw[A1] at hz ⊢;obtain⟨op,n,s,ks⟩:=t;have e:op=25:=e;have A0:ks=[k]:=A0;subst e A0;refine yl fun F day f hF hf=>?_;rw[vg,tq hz,tq hz]
  ·cases h
 ·unfold later at h;split at h
  ·rename_i hc;obtain⟨e,e2⟩:=hc;cases h;obtain⟨l1, -, -⟩:=open_kids (t:=t) (by rw[e]; decide) (by rw[e]; exact want_29) h0;obtain⟨k,A0,A2,A1⟩:=one_kid l1;rw[A1] at e2 ⊢;obtain⟨l3, -, -⟩:=open_kids (t:=k) (by rw[e2]; decide) (by rw[e2]; exact want_29) (by rw[A2]; decide);obtain⟨j,A3,A8,A6⟩:=one_kid l3;obtain⟨op,n,s,ks⟩:=t;obtain⟨o2,n2,s2,A4⟩:=k;have e:op=29:=e;have e2:o2=29:=e2;have A0:ks=[T.mk o2 n2 s2 A4]:=A0;have A3:A4=[j]:=A3;subst e e2 A0 A3;show DenEq (.mk 29 n s [.mk 29 n2 s2 [j]]) (.mk 29 (max n n2) ⟨#[]⟩ [j])
   have go:∀ q,Lv q (.mk 29 n s [.mk 29 n2 s2 [j]]) (.mk 29 (max n n2) ⟨#[]⟩ [j]):=by
    intro q;induction q with
    |zero=>trivial
    |succ q ih=>
     refine yh (show(29:Int)≠31 by decide) (show(29:Int)≠31 by decide) fun F day f hF hf=>?_;rw[vc,vc,vc];by_cases h1:(Vm.env F day).day<n
     ·rw[if_pos h1,if_pos (by omega)]; exact mc f ih
     ·rw[if_neg h1];by_cases h2:(Vm.env F day).day<n2
      ·rw[if_pos h2,if_pos (by omega),show max n n2=n2 by omega];exact mc f (znn (DenEq.refl j) q)
      ·rw[if_neg h2,if_neg (by omega)]; exact DenEq.refl j q F day f hF hf
   exact uo go
  ·cases h
 ·unfold Co.chosen at h;split at h
  ·rename_i hc;obtain⟨ho,e2⟩:=hc;cases h;have e:t.op=28:=by omega
   obtain⟨l1, -, -⟩:=open_kids (t:=t) (by rw[e]; decide) (by rw[e]; exact want_28) h0;obtain⟨k,j,i,A0,A2,A1,A7,A9⟩:=three_kids l1;rw[A1] at e2 ⊢;obtain⟨op,n,s,ks⟩:=t;have e:op=28:=e;have A0:ks=[k,j,i]:=A0;subst e A0;refine yl fun F day f hF hf=>?_;rcases zkf A2.1 e2 with⟨e3,hb⟩|⟨e3,hb⟩
   ·rw[vd,jx hb,e3]; rfl
   ·rw[vd,jx hb,e3]; rfl
  ·cases h
 ·unfold never at h;split at h
  ·rename_i hc;obtain⟨e,hb,hz⟩:=hc;cases h;obtain⟨l1, -, -⟩:=open_kids (t:=t) (by rw[e]; decide) (by rw[e]; exact want_30) h0;obtain⟨k,j,A0,A2,A1,A7⟩:=two_kids l1;rw[A1] at hb ⊢;obtain⟨op,n,s,ks⟩:=t;have e:op=30:=e;have A0:ks=[k,j]:=A0;subst e A0;show DenEq (.mk 30 n s [k,j]) (.mk 30 n ⟨#[]⟩ [k,leaf 23 0])
   have go:∀ q,Lv q (.mk 30 n s [k,j]) (.mk 30 n ⟨#[]⟩ [k,leaf 23 0]):=by
    intro q;induction q with
    |zero=>trivial
    |succ q ih=>
     refine yh (show(30:Int)≠31 by decide) (show(30:Int)≠31 by decide) fun F day f hF hf=>?_;rw[yo,yo,jx hb];by_cases hd:n<(Vm.env F day).day
     ·rw[if_pos hd,if_pos hd]; exact zcz
     ·rw[if_neg hd,if_neg hd]; exact mc f ih
   exact uo go
  ·cases h
 ·cases h
theorem rs (p:Int):∀(m:Nat) (v:T),meas v≤m→(Obs v→OEq v (Co.settle p v))∧(v.letter=99→DenEq v (Co.settle p v))
 |0,v,h=>by have:=ph v; omega
 |m+1,v,h=>by
  by_cases he:v.ks=[]
  ·rw[settle_stop (.inl he)];exact⟨fun _ F day _=>rfl,fun _=>DenEq.refl v⟩
  ·cases hf:fit p v with
   |none=>
    rw[settle_stop (.inr hf)];exact⟨fun _ F day _=>rfl,fun _=>DenEq.refl v⟩
   |some u=>
    obtain⟨j,hj⟩:=qq 7 0 hf;constructor
    ·intro hx;have hs:=fit_step hf hx.1;rw[settle_go hx.1 he hf];exact(zto hj hx).trans ((rs p m u (by have:=hs.meas; omega)).1 (by unfold Obs; rw[hs.letter]; exact hx))
    ·intro hx;have h0:v.letter≠0:=by rw[hx]; decide
     have hs:=fit_step hf h0;rw[settle_go h0 he hf];exact(ztp hj hx).trans ((rs p m u (by have:=hs.meas; omega)).2 (by rw[hs.letter]; exact hx))
theorem zue {op n:Int}{s:ByteArray}{ks:List T}(h:Obs (.mk op n s ks))(h0:op≠1∧op≠2∧op≠3∧op≠4∧op≠5):∀ k∈ks,Obs k:=by
 rcases cy h with h1|⟨rfl, -⟩|⟨rfl, -⟩|⟨h1,a,rfl,ha,hl⟩|⟨h1,a,b,rfl,ha,hb⟩|⟨rfl,a,b,c,rfl,ha,hb,hc⟩|⟨h1,a,b,rfl,ha,hb⟩
 ·omega
 ·omega
 ·omega
 all_goals
  intro k hk;simp only[List.mem_cons,List.not_mem_nil,or_false] at hk
 ·subst hk; exact ha
 ·rcases hk with rfl|rfl
  ·exact cf ha
  ·exact hb
 ·rcases hk with rfl|rfl|rfl
  ·exact cf ha
  ·exact hb
  ·exact hc
 ·rcases hk with rfl|rfl
  ·exact ha
  ·exact hb
theorem zvn {op n:Int}{s:ByteArray}{ks:List T}(h:(T.mk op n s ks).letter=99):∀ k∈ks,k.letter≠0:=by
 rcases bz h with(⟨rfl,rfl⟩|⟨rfl,rfl⟩)|⟨h1,a,rfl,ha⟩|⟨rfl,o,a,rfl,ho,ha⟩|⟨h1,a,b,rfl,ha,hb⟩|⟨rfl,o,a,b,rfl,ho,ha,hb⟩|⟨rfl,o,a,rfl,ho,ha⟩;all_goals
  intro k hk;simp only[List.mem_cons,List.not_mem_nil,or_false] at hk
 ·subst hk; rw[ha]; decide
 ·rcases hk with rfl|rfl<;>simp_all
 ·rcases hk with rfl|rfl<;>simp_all
 ·rcases hk with rfl|rfl|rfl<;>simp_all
 ·rcases hk with rfl|rfl<;>simp_all
theorem zmb (p:Int)(t:T):(Obs t→OEq t (t.rw p))∧(t.letter=99→DenEq t (t.rw p)):=by
 induction t using T.ind with|h op n s ks ih=>?_
 constructor
 ·intro hx;by_cases h0:op≠1∧op≠2∧op≠3∧op≠4∧op≠5
  ·have hk:=zue hx h0;have h1:OEq (.mk op n s ks) (.mk op n s (ks.map (T.rw p))):=zzq fun k A0=>(ih k A0).1 (hk k A0);have hl:=(kids_kept (op:=op) (n:=n) (s:=s) (f:=T.rw p) fun k A0=>(rw_spec p k (hk k A0).1).2).letter;rw[T.rw,rws_map];exact h1.trans ((rs p _ _ (Nat.le_refl _)).1 (by unfold Obs; rw[hl]; exact hx))
  ·intro F day hF;have hb:∀ l l',bv1 (Vm.env F day) op n s l=bv1 (Vm.env F day) op n s l':=fun l l'=>by
    unfold bv1;by_cases h1:op=1∨op=2∨op=3
    ·rw[if_pos h1,if_pos h1]
    ·rw[if_neg h1,if_neg h1];by_cases h4:op=4
     ·rw[if_pos h4,if_pos h4]
     ·rw[if_neg h4,if_neg h4,if_pos (by omega),if_pos (by omega)]
   have A2:ks=[]∨op=1∨op=2∨op=3∨op=4∨op=5:=.inr (by omega);have A1:ks=[]:=by
    obtain⟨hw, -⟩:=letter_inv rfl hx.1 (by omega:op≠22);rcases(by omega:op=1∨op=2∨op=3∨op=4∨op=5) with rfl|rfl|rfl|rfl|rfl;all_goals
     simp only[want_1,want_2,want_3,want_4,want_5,Option.some.injEq,Prod.mk.injEq] at hw
     have:=hw.1;cases ks with
     |nil=>rfl
     |cons a r=>simp at this
   subst A1;rw[T.rw,rws_map];rw[settle_stop (.inl rfl)];rfl
 ·intro hx;have hk:=zvn hx;have h1:DenEq (.mk op n s ks) (.mk op n s (ks.map (T.rw p))):=zzw hx fun k A0=>ih k A0;have hl:=(kids_kept (op:=op) (n:=n) (s:=s) (f:=T.rw p) fun k A0=>(rw_spec p k (hk k A0)).2).letter;rw[T.rw,rws_map];exact h1.trans ((rs p _ _ (Nat.le_refl _)).2 (by rw[hl]; exact hx))
theorem zxa {t:T}(hx:t.letter=99)(p q:Int):DenEq (t.rw p) (t.rw q):=((zmb p t).2 hx).symm.trans ((zmb q t).2 hx)
end Sm
end
section
open Go.RowKit
namespace Gf
open Co Gen Dn
def Within (u:List Nat)(m:Mk):Prop:=∀ p∈u,p<m.ins.length
theorem Within.more {u:List Nat}{m m':Mk}(h:Within u m)(hl:m.ins.length≤m'.ins.length):Within u m':=fun p hp=>Nat.lt_of_lt_of_le (h p hp) hl
theorem Within.snoc {u:List Nat}{m:Mk}(h:Within u m)(x:Ix):Within (u++[m.ins.length]) (m.lay x):=fun p hp=>by
 rw[ah];rcases List.mem_append.1 hp with h1|h1
 ·have:=h p h1; omega
 ·rw[List.mem_singleton] at h1; omega
theorem ot {sh:Bool}{out:Int}{o:Ob}(h:Within o.2.2 o.2.1):Within (aj sh out o).2 (aj sh out o).1:=h.more (by rw[ej]; omega)
theorem mh (sh:Bool)(v:Val){m:Mk}{u:List Nat}(h:Within u m):Within (au sh v m u).2.2 (au sh v m u).2.1:=by
 unfold au;split
 ·exact h
 ·show Within (if v.op=2 then u++[m.ins.length] else u) ((m.reg.lay (v.ix m.next)).put v m.next)
  split
  ·exact(Within.snoc (m:=m.reg) h (v.ix m.next)).more (Nat.le_refl _)
  ·exact h.more (by show m.ins.length≤(m.ins++[_]).length; simp)
theorem og (sh:Bool)(d:Nat):∀(t:T) (m:Mk) (u:List Nat),Within u m→Within (obs sh d t m u).2.2 (obs sh d t m u).2.1:=by
 induction d with
 |zero=>intro t m u h; exact h
 |succ d ih=>
  intro t m u h;rw[obs];split
  ·exact mh _ _ h
  split
  ·exact mh _ _ h
  split
  ·exact mh _ _ h
  have h1:=ot (sh:=sh) (out:=m.next) (ih (t.kid 0) m.reg u h);split
  ·unfold chosen iq;simp only;generalize aj sh m.next (obs sh d (t.kid 0) m.reg u)=A at *;have h2:=ot (sh:=sh) (out:=m.next) (ih (t.kid 1) (A.1.lay (ix 19 0 m.next 0)) A.2 (h1.more (by rw[ah]; omega)));exact h2.more (by rw[df,ak,ao]; omega)
  split
  ·unfold chosen jy;simp only;generalize aj sh m.next (obs sh d (t.kid 0) m.reg u)=A at *;have h2:=ot (sh:=sh) (out:=m.next) (ih (t.kid 1) (((A.1.lay (ix 19 0 m.next 0)).lay (ix 20 0 0 0)).here A.1.ins.length) A.2 (h1.more (by rw[ak,ah,ah]; omega)));exact h2.more (by rw[df,ak,ao]; omega)
  split
  ·unfold chosen jz;simp only;generalize aj sh m.next (obs sh d (t.kid 0) m.reg u)=A at *;have h2:=ot (sh:=sh) (out:=m.next) (ih (t.kid 1) (A.1.lay (ix 19 0 m.next 0)) A.2 (h1.more (by rw[ah]; omega)));generalize aj sh m.next (obs sh d (t.kid 1) (A.1.lay (ix 19 0 m.next 0)) A.2)=C at *;have h3:=ot (sh:=sh) (out:=m.next) (ih (t.kid 2) (((C.1.back (A.1.lay (ix 19 0 m.next 0)).known).lay (ix 20 0 0 0)).here A.1.ins.length) C.2 (h2.more (by rw[ak,ah,ao]; omega)));exact h3.more (by rw[df,ak,ao]; omega)
  ·have h2:=ih (t.kid 0) m u h;obtain⟨o,ho⟩:∃ o,obs sh d (t.kid 0) m u=o:=⟨_,rfl⟩
   rw[ho] at h2;by_cases hl:1<t.ks.length
   ·have h3:=ih (t.kid 1) o.2.1 o.2.2 h2;obtain⟨p,hp⟩:∃ p,obs sh d (t.kid 1) o.2.1 o.2.2=p:=⟨_,rfl⟩
    rw[hp] at h3;rw[iy hl rfl ho rfl hp];cases sh
    ·exact h3.more (by show _≤((p.2.1.lay _).free false _).ins.length; rw[df,ah]; omega)
    ·exact mh _ _ h3
   ·rw[iz hl rfl ho];cases sh
    ·exact h2.more (by show _≤((o.2.1.lay _).free false _).ins.length; rw[df,ah]; omega)
    ·exact mh _ _ h2
end Gf
end
section
open Go.RowKit
namespace Sm
open Co Gen Dn Gf
section
variable {c:Cd}{E:Vm.Env}
def Does (c:Cd)(E:Vm.Env)(a f:Int)(r:List Int)(a' f':Int)(r':List Int)(k:Nat)(hs:List (Int × Int))(os:List (ByteArray × Int)):Prop:=
 ∀ H O s,s+k≤65536→H.length+hs.length≤250→Vm.run c E a f r ⟨H,O,s,false⟩=Vm.run c E a' f' r' ⟨H++hs,O++os,s+k,false⟩
def Ends (c:Cd)(E:Vm.Env)(a f:Int)(r:List Int)(k:Nat)(hs:List (Int × Int))(os:List (ByteArray × Int)):Prop:=
 ∀ H O s,s+k≤65536→H.length+hs.length≤250→Vm.run c E a f r ⟨H,O,s,false⟩=⟨H++hs,O++os,s+k,false⟩
def Steps (c:Cd)(E:Vm.Env)(a f:Int)(r:List Int)(a' f':Int)(r':List Int)(k:Nat):Prop:=Does c E a f r a' f' r' k [] []
variable {a a' a'' f f' f'':Int}{r r' r'':List Int}{k k':Nat}{hs hs':List (Int × Int)}{os os':List (ByteArray × Int)}
theorem Does.refl:Does c E a f r a f r 0 [] []:=fun H O s _ _=>by simp
theorem Does.trans (h:Does c E a f r a' f' r' k hs os)(h':Does c E a' f' r' a'' f'' r'' k' hs' os'):Does c E a f r a'' f'' r'' (k+k') (hs++hs') (os++os'):=by
 intro H O s h1 h2;rw[List.length_append] at h2;rw[h H O s (by omega) (by omega),h' _ _ _ (by omega) (by rw[List.length_append]; omega)];simp[Nat.add_assoc]
theorem Does.ends (h:Does c E a f r a' f' r' k hs os)(h':Ends c E a' f' r' k' hs' os'):Ends c E a f r (k+k') (hs++hs') (os++os'):=by
 intro H O s h1 h2;rw[List.length_append] at h2;rw[h H O s (by omega) (by omega),h' _ _ _ (by omega) (by rw[List.length_append]; omega)];simp[Nat.add_assoc]
theorem Steps.refl:Steps c E a f r a f r 0:=Does.refl
theorem Steps.trans (h:Steps c E a f r a' f' r' k)(h':Steps c E a' f' r' a'' f'' r'' k'):Steps c E a f r a'' f'' r'' (k+k'):=Does.trans h h'
theorem Steps.does (h:Steps c E a f r a' f' r' k)(h':Does c E a' f' r' a'' f'' r'' k' hs os):Does c E a f r a'' f'' r'' (k+k') hs os:=by
 have:=Does.trans h h';simpa using this
theorem Does.steps (h:Does c E a f r a' f' r' k hs os)(h':Steps c E a' f' r' a'' f'' r'' k'):Does c E a f r a'' f'' r'' (k+k') hs os:=by
 have:=Does.trans h h';simpa using this
theorem Steps.ends (h:Steps c E a f r a' f' r' k)(h':Ends c E a' f' r' k' hs os):Ends c E a f r (k+k') hs os:=by
 have:=Does.ends h h';simpa using this
theorem ux {p:Nat}{x:Ix}(h:c.ins[p]? = some x):Vm.insAt c (p:Int)=x:=by
 unfold Vm.insAt;rw[Int.toNat_natCast,h];rfl
theorem Steps.one {p:Nat}{x:Ix}(h:c.ins[p]? = some x)(ha:Vm.act c E x (p:Int) f r=.next a' f' r'):Steps c E (p:Int) f r a' f' r' 1:=by
 intro H O s h1 _;rw[Vm.run_step,if_neg (by simp; omega),ux h,ha];simp
theorem Ends.stop {p:Nat}{x:Ix}(h:c.ins[p]? = some x)(ho:x.op=30):Ends c E (p:Int) f r 1 [] []:=by
 intro H O s h1 _;rw[Vm.run_step,if_neg (by simp; omega),ux h]
 have:Vm.act c E x (p:Int) f r=.stop:=by unfold Vm.act; rw[if_pos ho]
 rw[this];simp
theorem Does.pay {p:Nat}{x:Ix}(h:c.ins[p]? = some x)(ho:x.op=27):Does c E (p:Int) f r ((p:Int)+1) f r 1 [] (if f=0 then [] else [(x.s,f)]):=by
 intro H O s h1 _;rw[Vm.run_step,if_neg (by simp; omega),ux h];by_cases h0:f=0
 ·have:Vm.act c E x (p:Int) f r=.next ((p:Int)+1) f r:=by
   unfold Vm.act;rw[if_neg (by omega),if_neg (by omega),if_neg (by omega),if_neg (by omega),if_neg (by omega),if_neg (by omega),if_neg (by omega),if_neg (by omega),if_neg (by omega),if_pos ho,if_pos h0]
  rw[this,if_pos h0];simp
 ·have:Vm.act c E x (p:Int) f r=.pay:=by
   unfold Vm.act;rw[if_neg (by omega),if_neg (by omega),if_neg (by omega),if_neg (by omega),if_neg (by omega),if_neg (by omega),if_neg (by omega),if_neg (by omega),if_neg (by omega),if_pos ho,if_neg h0]
  rw[this,if_neg h0];simp
theorem Does.hold {p:Nat}{x:Ix}(h:c.ins[p]? = some x)(ho:x.op=28):Does c E (p:Int) f r ((p:Int)+1) f r 1 [(x.n,f)] []:=by
 intro H O s h1 h2;rw[Vm.run_step,if_neg (by simp; omega),ux h]
 have:Vm.act c E x (p:Int) f r=.hold:=by
  unfold Vm.act;rw[if_neg (by omega),if_neg (by omega),if_neg (by omega),if_neg (by omega),if_neg (by omega),if_neg (by omega),if_neg (by omega),if_neg (by omega),if_neg (by omega),if_neg (by omega),if_pos ho]
 rw[this];have h3:¬250<H.length+1:=by simpa using h2
 simp[h3]
theorem Does.call {p:Nat}{x:Ix}(h:c.ins[p]? = some x)(ho:x.op=29)(he:Ends c E (dq c x.n) f Vm.zeros k hs os):Does c E (p:Int) f r ((p:Int)+1) f r (1+k) hs os:=by
 intro H O s h1 h2;rw[Vm.run_step,if_neg (by simp; omega),ux h]
 have:Vm.act c E x (p:Int) f r=.call (dq c x.n):=by
  unfold Vm.act;rw[if_neg (by omega),if_neg (by omega),if_neg (by omega),if_neg (by omega),if_neg (by omega),if_neg (by omega),if_neg (by omega),if_neg (by omega),if_neg (by omega),if_neg (by omega),if_neg (by omega),if_pos ho]
 rw[this];simp only;rw[he H O (s+1) (by omega) h2];simp[Nat.add_assoc]
end
/-! Registers. -/
theorem zl {r:List Int}{a v:Int}(hl:r.length=256)(ha:0≤a∧a<256):Vm.reg (Vm.setReg r a v) a=v:=by
 unfold Vm.reg Vm.setReg;rw[List.getElem?_set_self (by omega)];rfl
theorem pv {r:List Int}{a b v:Int}(ha:0≤a)(hb:0≤b)(h:a≠b):Vm.reg (Vm.setReg r a v) b=Vm.reg r b:=by
 unfold Vm.reg Vm.setReg;rw[List.getElem?_set_ne (by omega)]
theorem tg {r:List Int}{a v:Int}(hl:r.length=256):(Vm.setReg r a v).length=256:=by unfold Vm.setReg; rw[List.length_set,hl]
theorem zaw:Vm.zeros.length=256:=by unfold Vm.zeros; rw[List.length_replicate]
theorem zad {c:Cd}(h:Gen.right c=true){p:Nat}{x:Ix}(hp:c.ins[p]? = some x):(eg x.op=true→0≤x.a∧x.a<256)∧(fk x.op=true→0≤x.b∧x.b<256):=by
 obtain⟨h1, -, -, -, -, -,h7⟩:=du h;have h8:=h7 p x hp;unfold insOk fld at h8;simp only[Bool.and_eq_true,decide_eq_true_eq] at h8;obtain⟨-, -,ha,hb, -⟩:=h8;refine⟨fun e=>?_,fun e=>?_⟩
 ·rw[e] at ha; simp only[if_true,Bool.and_eq_true,decide_eq_true_eq] at ha; omega
 ·rw[e] at hb; simp only[if_true,Bool.and_eq_true,decide_eq_true_eq] at hb; omega
/-! What of the maker's code is kept. -/
def Fz (n:Nat)(l:List Ix)(m:Mk):Prop:=∀ p,p<n→m.ins[p]? = l[p]?
section
variable {n:Nat}{l:List Ix}{m m':Mk}
theorem Fz.same (h:Fz n l m)(e:m'.ins=m.ins):Fz n l m':=by unfold Fz; rw[e]; exact h
theorem Fz.lay (h:Fz n l m)(hn:n≤m.ins.length)(x:Ix):Fz n l (m.lay x):=fun p hp=>by
 show(m.ins++[x])[p]? = _
 rw[List.getElem?_append_left (by omega)];exact h p hp
theorem Fz.here (h:Fz n l m){q:Nat}(hq:n≤q):Fz n l (m.here q):=fun p hp=>by
 rw[qb,if_neg (by omega)];exact h p hp
theorem Fz.back (h:Fz n l m)(k:Val→Option Int):Fz n l (m.back k):=h.same rfl
theorem Fz.free (h:Fz n l m)(sh:Bool)(r:Int):Fz n l (m.free sh r):=h.same (by unfold Mk.free; cases sh<;>rfl)
theorem sg (sh:Bool)(v:Val)(u:List Nat)(h:Fz n l m)(hn:n≤m.ins.length):Fz n l (au sh v m u).2.1:=by
 unfold au;split
 ·exact h
 ·exact((h.same (m':=m.reg) rfl).lay hn _).same rfl
theorem tx {o:Ob}(sh:Bool)(out:Int)(h:Fz n l o.2.1)(hn:n≤o.2.1.ins.length):Fz n l (aj sh out o).1:=(h.lay hn _).free sh _
end
theorem zjb (sh:Bool)(d:Nat):∀(t:T) (m:Mk) (u:List Nat) (n:Nat) (l:List Ix),Fz n l m→n≤m.ins.length→Fz n l (obs sh d t m u).2.1:=by
 induction d with
 |zero=>intro t m u n l h _; exact h
 |succ d ih=>
  intro t m u n l h hn;rw[obs];split
  ·exact sg _ _ _ h hn
  split
  ·exact sg _ _ _ h hn
  split
  ·exact sg _ _ _ h hn
  have la:=bm sh d (t.kid 0) m.reg u;have lia:=ej sh m.next (obs sh d (t.kid 0) m.reg u);have ga:=tx sh m.next (ih (t.kid 0) m.reg u n l (h.same rfl) hn) (Nat.le_trans hn la);have A0:m.reg.ins.length=m.ins.length:=rfl;split
  ·unfold Gf.chosen iq;simp only;generalize aj sh m.next (obs sh d (t.kid 0) m.reg u)=A at *;have lb:=bm sh d (t.kid 1) (A.1.lay (ix 19 0 m.next 0)) A.2;rw[ah] at lb;have gb:=tx sh m.next (ih (t.kid 1) (A.1.lay (ix 19 0 m.next 0)) A.2 n l (ga.lay (by omega) _) (by rw[ah]; omega)) (by omega);exact((gb.back _).here (by omega)).free sh _
  split
  ·unfold Gf.chosen jy;simp only;generalize aj sh m.next (obs sh d (t.kid 0) m.reg u)=A at *;have lb:=bm sh d (t.kid 1) (((A.1.lay (ix 19 0 m.next 0)).lay (ix 20 0 0 0)).here A.1.ins.length) A.2;rw[ak,ah,ah] at lb;have gb:=tx sh m.next (ih (t.kid 1) (((A.1.lay (ix 19 0 m.next 0)).lay (ix 20 0 0 0)).here A.1.ins.length) A.2 n l (((ga.lay (by omega) _).lay (by rw[ah]; omega) _).here (by omega)) (by rw[ak,ah,ah]; omega)) (by omega);exact((gb.back _).here (by omega)).free sh _
  split
  ·unfold Gf.chosen jz;simp only;generalize aj sh m.next (obs sh d (t.kid 0) m.reg u)=A at *;have lb:=bm sh d (t.kid 1) (A.1.lay (ix 19 0 m.next 0)) A.2;rw[ah] at lb;have lib:=ej sh m.next (obs sh d (t.kid 1) (A.1.lay (ix 19 0 m.next 0)) A.2);have gb:=tx sh m.next (ih (t.kid 1) (A.1.lay (ix 19 0 m.next 0)) A.2 n l (ga.lay (by omega) _) (by rw[ah]; omega)) (by omega);generalize aj sh m.next (obs sh d (t.kid 1) (A.1.lay (ix 19 0 m.next 0)) A.2)=C at *;have lc:=bm sh d (t.kid 2) (((C.1.back (A.1.lay (ix 19 0 m.next 0)).known).lay (ix 20 0 0 0)).here A.1.ins.length) C.2;rw[ak,ah,ao] at lc;have gc:=tx sh m.next (ih (t.kid 2) (((C.1.back (A.1.lay (ix 19 0 m.next 0)).known).lay (ix 20 0 0 0)).here A.1.ins.length) C.2 n l (((gb.same (m':=C.1.back (A.1.lay (ix 19 0 m.next 0)).known) rfl).lay (by rw[ao]; omega) _).here (by omega)) (by rw[ak,ah,ao]; omega)) (by omega);exact((gc.back _).here (by omega)).free sh _
  ·unfold me;simp only;have g1:=ih (t.kid 0) m u n l h hn;have l1:=bm sh d (t.kid 0) m u;generalize obs sh d (t.kid 0) m u=A at *;have h2:∀ b:Ob,b=(if 1<t.ks.length then obs sh d (t.kid 1) A.2.1 A.2.2 else(0,A.2.1,A.2.2))→Fz n l b.2.1∧n≤b.2.1.ins.length:=by
    rintro b rfl;split
    ·exact⟨ih (t.kid 1) A.2.1 A.2.2 n l g1 (by omega),by have:=bm sh d (t.kid 1) A.2.1 A.2.2; omega⟩
    ·exact⟨g1,by show n≤A.2.1.ins.length; omega⟩
   split
   ·exact sg _ _ _ (h2 _ rfl).1 (h2 _ rfl).2
   ·exact((h2 _ rfl).1.lay (h2 _ rfl).2 _).free sh _
theorem zbx (sh:Bool)(d:Nat):∀(t:T) (m:Mk) (n:Nat) (l:List Ix),Fz n l m→n≤m.ins.length→Fz n l (con sh d t m):=by
 induction d with
 |zero=>intro t m n l h _; exact h
 |succ d ih=>
  intro t m n l h hn;have hc:∀(t:T) {m:Mk},Fz n l m∧n≤m.ins.length→Fz n l (con sh d t m)∧n≤(con sh d t m).ins.length:=fun t m h=>⟨ih t m n l h.1 h.2,Nat.le_trans h.2 (kq sh d t m).2⟩
  have ho:∀(t:T) {m:Mk},Fz n l m∧n≤m.ins.length→Fz n l (obs sh d t m []).2.1∧n≤(obs sh d t m []).2.1.ins.length:=fun t m h=>⟨zjb sh d t m [] n l h.1 h.2,Nat.le_trans h.2 (bm sh d t m [])⟩
  have hl:∀(x:Ix) {m:Mk},Fz n l m∧n≤m.ins.length→Fz n l (m.lay x)∧n≤(m.lay x).ins.length:=fun x m h=>⟨h.1.lay h.2 x,by rw[ah]; omega⟩
  have he:∀(r:Int) {m:Mk},Fz n l m∧n≤m.ins.length→Fz n l (either (con sh d) r t m):=by
   intro r m h;obtain⟨A,B,C,D,hA,hB,hC,hD,e⟩:=cm (con sh d) r t m;have gA:Fz n l A∧n≤A.ins.length:=by rw[hA]; exact hl _ h
   have gB:Fz n l B∧n≤B.ins.length:=by rw[hB]; exact hc _ gA
   have gC:Fz n l C∧n≤C.ins.length:=by
    rw[hC,ak]
    have:=hl (ix 20 0 0 0) (m:=B.back A.known) ⟨gB.1.same rfl,gB.2⟩;exact⟨this.1.here h.2,this.2⟩
   have gD:Fz n l D∧n≤D.ins.length:=by rw[hD]; exact hc _ gC
   rw[e];exact(gD.1.same (m':=D.back C.known) rfl).here (by rw[ao]; exact gB.2)
  rw[con];split
  ·exact(hl (ix 29 0 0 m.ws.length) ⟨h,hn⟩).1.same rfl
  ·refine Fz.free ?_ sh _;split
   ·exact(hl _ ⟨h,hn⟩).1
   split
   ·exact(hc _ (hl _ ⟨h,hn⟩)).1
   split
   ·exact(hc _ (hl _ (hc _ (hl _ (m:=m.reg) ⟨h.same rfl,hn⟩)))).1
   split
   ·simp only;exact(hc _ (hl _ (ho _ ⟨h,hn⟩))).1
   split
   ·simp only;exact he _ (ho _ ⟨h,hn⟩)
   ·exact h
theorem zcl (sh:Bool)(d:Nat):∀(t:T) (m:Mk) (u:List Nat),∀ p∈(obs sh d t m u).2.2,p∈u∨m.ins.length≤p:=by
 induction d with
 |zero=>intro t m u p hp; exact .inl hp
 |succ d ih=>
  intro t m u;have hr:∀(v:Val) (m':Mk) (u':List Nat),m.ins.length≤m'.ins.length→(∀ p∈u',p∈u∨m.ins.length≤p)→∀ p∈(au sh v m' u').2.2,p∈u∨m.ins.length≤p:=by
   intro v m' u' hl h p hp;unfold au at hp;split at hp
   ·exact h p hp
   ·have A0:p∈(if v.op=2 then u'++[m'.ins.length] else u'):=hp;split at A0
    ·rcases List.mem_append.1 A0 with h1|h1
     ·exact h p h1
     ·rw[List.mem_singleton] at h1; subst h1; exact .inr hl
    ·exact h p A0
  have hk:∀(t:T) (m':Mk) (u':List Nat),m.ins.length≤m'.ins.length→(∀ p∈u',p∈u∨m.ins.length≤p)→∀ p∈(obs sh d t m' u').2.2,p∈u∨m.ins.length≤p:=by
   intro t m' u' hl h p hp;rcases ih t m' u' p hp with h1|h1
   ·exact h p h1
   ·exact .inr (by omega)
  have h0:∀ p∈u,p∈u∨m.ins.length≤p:=fun p hp=>.inl hp;rw[obs];split
  ·exact hr _ m u (Nat.le_refl _) h0
  split
  ·exact hr _ m u (Nat.le_refl _) h0
  split
  ·exact hr _ m u (Nat.le_refl _) h0
  have ga:∀ p∈(aj sh m.next (obs sh d (t.kid 0) m.reg u)).2,p∈u∨m.ins.length≤p:=hk (t.kid 0) m.reg u (Nat.le_refl _) h0;have la:=bm sh d (t.kid 0) m.reg u;have lia:=ej sh m.next (obs sh d (t.kid 0) m.reg u);have A2:m.reg.ins.length=m.ins.length:=rfl;split
  ·unfold Gf.chosen iq;simp only;generalize aj sh m.next (obs sh d (t.kid 0) m.reg u)=A at *;exact hk (t.kid 1) (A.1.lay (ix 19 0 m.next 0)) A.2 (by rw[ah]; omega) ga
  split
  ·unfold Gf.chosen jy;simp only;generalize aj sh m.next (obs sh d (t.kid 0) m.reg u)=A at *;exact hk (t.kid 1) (((A.1.lay (ix 19 0 m.next 0)).lay (ix 20 0 0 0)).here A.1.ins.length) A.2 (by rw[ak,ah,ah]; omega) ga
  split
  ·unfold Gf.chosen jz;simp only;generalize aj sh m.next (obs sh d (t.kid 0) m.reg u)=A at *;have gb:∀ p∈(aj sh m.next (obs sh d (t.kid 1) (A.1.lay (ix 19 0 m.next 0)) A.2)).2,p∈u∨m.ins.length≤p:=hk (t.kid 1) (A.1.lay (ix 19 0 m.next 0)) A.2 (by rw[ah]; omega) ga;have lb:=bm sh d (t.kid 1) (A.1.lay (ix 19 0 m.next 0)) A.2;rw[ah] at lb;have lib:=ej sh m.next (obs sh d (t.kid 1) (A.1.lay (ix 19 0 m.next 0)) A.2);generalize aj sh m.next (obs sh d (t.kid 1) (A.1.lay (ix 19 0 m.next 0)) A.2)=C at *;exact hk (t.kid 2) (((C.1.back (A.1.lay (ix 19 0 m.next 0)).known).lay (ix 20 0 0 0)).here A.1.ins.length) C.2 (by rw[ak,ah,ao]; omega) gb
  ·have g1:=hk (t.kid 0) m u (Nat.le_refl _) h0;have l1:=bm sh d (t.kid 0) m u;obtain⟨o,A1⟩:∃ o,obs sh d (t.kid 0) m u=o:=⟨_,rfl⟩
   rw[A1] at g1 l1;by_cases hl:1<t.ks.length
   ·have g2:=hk (t.kid 1) o.2.1 o.2.2 l1 g1;have l2:=bm sh d (t.kid 1) o.2.1 o.2.2;obtain⟨q,hq⟩:∃ q,obs sh d (t.kid 1) o.2.1 o.2.2=q:=⟨_,rfl⟩
    rw[hq] at g2 l2;rw[iy hl rfl A1 rfl hq];cases sh
    ·exact g2
    ·exact hr _ q.2.1 q.2.2 (by omega) g2
   ·rw[iz hl rfl A1];cases sh
    ·exact g1
    ·exact hr _ o.2.1 o.2.2 l1 g1
theorem zbk (d:Nat):∀(t:T) (m:Mk) (u:List Nat),Obs t→t.depth≤d→(obs false d t m u).1=m.next∧(obs false d t m u).2.1.next=m.next+1:=by
 induction d with
 |zero=>intro t m u _ hd; have:=je t; omega
 |succ d ih=>
  intro t m u ht hd;obtain⟨op,n,s,ks⟩:=t;have A0:∀ k∈ks,k.depth≤d:=fun k hk=>by
   have h1:=em hk;rw[T.depth] at hd;omega
  rcases cy ht with h1|⟨rfl,h2⟩|⟨rfl,h2⟩|⟨h1,a,rfl,ha, -⟩|⟨h1,a,b,rfl,ha,hb⟩|⟨rfl,a,b,c,rfl,ha,hb,hc⟩|⟨h1,a,b,rfl,ha,hb⟩
  ·rw[px (t:=.mk op n s ks) h1]; exact⟨rfl,rfl⟩
  ·rw[qx rfl]; exact⟨rfl,rfl⟩
  ·rw[tu rfl]; exact⟨rfl,rfl⟩
  ·rw[mj (by show 6≤op∧op≤21∧op≠15∧op≠16; omega),iz (a:=a) (by simp[T.ks]) ay rfl,if_neg (by decide)];exact⟨(ih a m u ha (A0 a (by simp))).1,rfl⟩
  ·rcases h1 with rfl|rfl
   ·rw[tv rfl]; exact⟨rfl,rfl⟩
   ·rw[yd rfl]; exact⟨rfl,rfl⟩
  ·rw[yf rfl]; exact⟨rfl,rfl⟩
  ·rw[mj (by unfold ct at h1; show 6≤op∧op≤21∧op≠15∧op≠16; omega),iy (a:=a) (b:=b) (by simp[T.ks]) ay rfl bx rfl,if_neg (by decide)];exact⟨(ih a m u ha (A0 a (by simp))).1,rfl⟩
theorem zdn (d:Nat):∀(t:T) (m:Mk) (u:List Nat),m.next≤(obs true d t m u).2.1.next:=by
 induction d with
 |zero=>intro t m u; exact Int.le_refl _
 |succ d ih=>
  intro t m u;have hr:∀(v:Val) (m':Mk) (u':List Nat),m'.next≤(au true v m' u').2.1.next:=by
   intro v m' u';unfold au;split
   ·exact Int.le_refl _
   ·show m'.next≤m'.next+1; omega
  rw[obs];split
  ·exact hr _ _ _
  split
  ·exact hr _ _ _
  split
  ·exact hr _ _ _
  have ga:=ih (t.kid 0) m.reg u;have e0:m.reg.next=m.next+1:=rfl;split
  ·unfold Gf.chosen iq;simp only;have gb:=ih (t.kid 1) ((aj true m.next (obs true d (t.kid 0) m.reg u)).1.lay (ix 19 0 m.next 0)) (aj true m.next (obs true d (t.kid 0) m.reg u)).2;have e1:((aj true m.next (obs true d (t.kid 0) m.reg u)).1.lay (ix 19 0 m.next 0)).next=(obs true d (t.kid 0) m.reg u).2.1.next:=rfl;show m.next≤(obs true d (t.kid 1) ((aj true m.next (obs true d (t.kid 0) m.reg u)).1.lay (ix 19 0 m.next 0)) (aj true m.next (obs true d (t.kid 0) m.reg u)).2).2.1.next
   omega
  split
  ·unfold Gf.chosen jy;simp only;have gb:=ih (t.kid 1) ((((aj true m.next (obs true d (t.kid 0) m.reg u)).1.lay (ix 19 0 m.next 0)).lay (ix 20 0 0 0)).here (aj true m.next (obs true d (t.kid 0) m.reg u)).1.ins.length) (aj true m.next (obs true d (t.kid 0) m.reg u)).2;have e1:((((aj true m.next (obs true d (t.kid 0) m.reg u)).1.lay (ix 19 0 m.next 0)).lay (ix 20 0 0 0)).here (aj true m.next (obs true d (t.kid 0) m.reg u)).1.ins.length).next=(obs true d (t.kid 0) m.reg u).2.1.next:=rfl;show m.next≤(obs true d (t.kid 1) ((((aj true m.next (obs true d (t.kid 0) m.reg u)).1.lay (ix 19 0 m.next 0)).lay (ix 20 0 0 0)).here (aj true m.next (obs true d (t.kid 0) m.reg u)).1.ins.length) (aj true m.next (obs true d (t.kid 0) m.reg u)).2).2.1.next
   omega
  split
  ·unfold Gf.chosen jz;simp only;have gb:=ih (t.kid 1) ((aj true m.next (obs true d (t.kid 0) m.reg u)).1.lay (ix 19 0 m.next 0)) (aj true m.next (obs true d (t.kid 0) m.reg u)).2;have e1:((aj true m.next (obs true d (t.kid 0) m.reg u)).1.lay (ix 19 0 m.next 0)).next=(obs true d (t.kid 0) m.reg u).2.1.next:=rfl;generalize aj true m.next (obs true d (t.kid 0) m.reg u)=A at *;have e2:(aj true m.next (obs true d (t.kid 1) (A.1.lay (ix 19 0 m.next 0)) A.2)).1.next=(obs true d (t.kid 1) (A.1.lay (ix 19 0 m.next 0)) A.2).2.1.next:=rfl;generalize aj true m.next (obs true d (t.kid 1) (A.1.lay (ix 19 0 m.next 0)) A.2)=C at *;have gc:=ih (t.kid 2) (((C.1.back (A.1.lay (ix 19 0 m.next 0)).known).lay (ix 20 0 0 0)).here A.1.ins.length) C.2;have e3:(((C.1.back (A.1.lay (ix 19 0 m.next 0)).known).lay (ix 20 0 0 0)).here A.1.ins.length).next=C.1.next:=rfl;show m.next≤(obs true d (t.kid 2) (((C.1.back (A.1.lay (ix 19 0 m.next 0)).known).lay (ix 20 0 0 0)).here A.1.ins.length) C.2).2.1.next
   omega
  ·have g1:=ih (t.kid 0) m u;obtain⟨o,A0⟩:∃ o,obs true d (t.kid 0) m u=o:=⟨_,rfl⟩
   rw[A0] at g1;by_cases hl:1<t.ks.length
   ·have g2:=ih (t.kid 1) o.2.1 o.2.2;obtain⟨q,hq⟩:∃ q,obs true d (t.kid 1) o.2.1 o.2.2=q:=⟨_,rfl⟩
    rw[hq] at g2;rw[iy hl rfl A0 rfl hq,if_pos rfl];exact Int.le_trans (Int.le_trans g1 g2) (hr _ _ _)
   ·rw[iz hl rfl A0,if_pos rfl];exact Int.le_trans g1 (hr _ _ _)
end Sm
end
section
open Go.RowKit
namespace Sm
open Co Gen Dn Gf
/-! What an instruction reckons. -/
def lu (E:Vm.Env)(v:Val)(r:List Int):Option Int:=
 if v.op=1 then some v.n else if v.op=2 then E.feed v.s v.n else if v.op=3 then some (E.now v.n)
 else if v.op=4∨v.op=12 then some (E.rk v.op (Vm.reg r v.b) 0) else some (E.rk v.op (Vm.reg r v.b) (Vm.reg r v.c))
def opB (v:Val):Prop:=v.op≠1∧v.op≠2∧v.op≠3
def opC (v:Val):Prop:=opB v∧v.op≠4∧v.op≠12
theorem zgk {E:Vm.Env}{v:Val}{r r':List Int}(hb:opB v→Vm.reg r' v.b=Vm.reg r v.b)(hc:opC v→Vm.reg r' v.c=Vm.reg r v.c):lu E v r'=lu E v r:=by
 unfold lu;by_cases h1:v.op=1
 ·rw[if_pos h1,if_pos h1]
 by_cases h2:v.op=2
 ·rw[if_neg h1,if_pos h2,if_neg h1,if_pos h2]
 by_cases h3:v.op=3
 ·rw[if_neg h1,if_neg h2,if_pos h3,if_neg h1,if_neg h2,if_pos h3]
 rw[if_neg h1,if_neg h2,if_neg h3,if_neg h1,if_neg h2,if_neg h3,hb ⟨h1,h2,h3⟩];by_cases h4:v.op=4∨v.op=12
 ·rw[if_pos h4,if_pos h4]
 ·rw[if_neg h4,if_neg h4,hc ⟨⟨h1,h2,h3⟩,fun e=>h4 (.inl e),fun e=>h4 (.inr e)⟩]
def KnOk (sh:Bool)(E:Vm.Env)(G:Int→Prop)(known:Val→Option Int)(r:List Int):Prop:=
 sh=true→∀ v x,known v=some x→G x∧(opB v→G v.b)∧(opC v→G v.c)∧lu E v r=some (Vm.reg r x)
theorem KnOk.mono {sh:Bool}{E:Vm.Env}{G G':Int→Prop}{known:Val→Option Int}{r:List Int}(h:KnOk sh E G known r)(hg:∀ x,G x→G' x):KnOk sh E G' known r:=fun e v x hx=>by
 obtain⟨h1,h2,h3,h4⟩:=h e v x hx;exact⟨hg _ h1,fun y=>hg _ (h2 y),fun y=>hg _ (h3 y),h4⟩
theorem KnOk.regs {sh:Bool}{E:Vm.Env}{G:Int→Prop}{known:Val→Option Int}{r r':List Int}(h:KnOk sh E G known r)(hr:∀ x,G x→Vm.reg r' x=Vm.reg r x):KnOk sh E G known r':=fun e v x hx=>by
 obtain⟨h1,h2,h3,h4⟩:=h e v x hx;exact⟨h1,h2,h3,by rw[zgk (fun y=>hr _ (h2 y)) (fun y=>hr _ (h3 y)),h4,hr _ h1]⟩
/-! The final code and a piece of it. -/
def Ag (c:Cd)(n:Nat)(m:Mk):Prop:=∀ p x,n≤p→m.ins[p]? = some x→∃ z,c.ins[p]? = some (gx x z)∧(x.op≠2→z=x.to)
section
variable {c:Cd}{E:Vm.Env}{n n':Nat}{m m' m1:Mk}{f:Int}{r:List Int}
theorem Ag.sub (h:Ag c n m')(hn:n≤n')(hk:∀ p,n'≤p→p<m1.ins.length→m'.ins[p]? = m1.ins[p]?):Ag c n' m1:=fun p x hp hx=>
 h p x (Nat.le_trans hn hp) (by rw[hk p hp (List.getElem?_eq_some_iff.1 hx).1]; exact hx)
theorem Ag.get (h:Ag c n m){p:Nat}{x:Ix}(hp:n≤p)(hx:m.ins[p]? = some x)(ho:x.op≠2):c.ins[p]? = some x:=by
 obtain⟨z,h1,h2⟩:=h p x hp hx;rw[h2 ho] at h1;exact h1
theorem dx (m:Mk)(x:Ix){p:Nat}(h:p<m.ins.length):(m.lay x).ins[p]? = m.ins[p]?:=List.getElem?_append_left h
theorem dy (m:Mk)(x:Ix):(m.lay x).ins[m.ins.length]? = some x:=by show(m.ins++[x])[m.ins.length]? = _; simp
theorem gp (m:Mk){p q:Nat}(h:q≠p):(m.here q).ins[p]? = m.ins[p]?:=by rw[qb,if_neg h]
theorem mp (m:Mk){q:Nat}{x:Ix}(h:m.ins[q]? = some x):(m.here q).ins[q]? = some (gx x m.ins.length):=by rw[qb,if_pos rfl,h]; rfl
theorem iu (m:Mk)(sh:Bool)(r:Int):(m.free sh r).ins=m.ins:=by unfold Mk.free; cases sh<;>rfl
theorem znw (m:Mk)(sh:Bool)(r:Int):(m.free sh r).known=m.known:=by unfold Mk.free; cases sh<;>rfl
theorem zmv {v:Val}{a y z:Int}{p:Int}(he:EnvOk E)(hv:(1≤v.op∧v.op≤17))(h:lu E v r=some y):Vm.act c E (gx (v.ix a) z) p f r=.next (p+1) f (Vm.setReg r a y):=by
 unfold lu at h;unfold Vm.act;show(if v.op=30 then _ else if v.op=1 then _ else if v.op=3 then _ else if v.op=2 then _ else if v.op=20∨v.op=19∨v.op=21∨v.op=22 then _ else if v.op=23 then _ else if v.op=24 then _ else if v.op=25 then _ else if v.op=26 then _ else if v.op=27 then _ else if v.op=28 then _ else if v.op=29 then _ else _)=_
 rw[if_neg (by omega)];by_cases h1:v.op=1
 ·rw[if_pos h1] at h;cases h;rw[if_pos h1]; rfl
 rw[if_neg h1] at h ⊢;by_cases h3:v.op=3
 ·rw[if_neg (by omega),if_pos h3] at h;cases h;rw[if_pos h3]; rfl
 rw[if_neg h3];by_cases h2:v.op=2
 ·rw[if_pos h2] at h;rw[if_pos h2];show(match E.feed v.s v.n with|none=>_|some n=>_)=_
  rw[h]; rfl
 rw[if_neg h2,if_neg h3] at h;rw[if_neg h2,if_neg (by omega),if_neg (by omega),if_neg (by omega),if_neg (by omega),if_neg (by omega),if_neg (by omega),if_neg (by omega),if_neg (by omega)];by_cases h4:v.op=4∨v.op=12
 ·rw[if_pos h4] at h;cases h;show Vm.Act.next (p+1) f (Vm.setReg r a (E.rk v.op (Vm.reg r v.b) (Vm.reg r v.c)))=_
  rcases h4 with h4|h4
  ·rw[h4,he.neg _ _ 0]
  ·rw[h4,he.not _ _ 0]
 ·rw[if_neg h4] at h;cases h;rfl
theorem zvy {v:Val}{a z:Int}{p:Int}(hv:v.op=2)(h:lu E v r=none):Vm.act c E (gx (v.ix a) z) p f r=.next z f r:=by
 unfold lu at h;rw[if_neg (by omega),if_pos hv] at h;unfold Vm.act;show(if v.op=30 then _ else if v.op=1 then _ else if v.op=3 then _ else if v.op=2 then _ else _)=_
 rw[if_neg (by omega),if_neg (by omega),if_neg (by omega),if_pos hv];show(match E.feed v.s v.n with|none=>_|some n=>_)=_
 rw[h]; rfl
theorem zvx {a b z:Int}{p:Int}(he:EnvOk E):Vm.act c E (gx (ix 18 a b 0) z) p f r=.next (p+1) f (Vm.setReg r a (Vm.reg r b)):=by
 show Vm.Act.next (p+1) f (Vm.setReg r a (E.rk 18 (Vm.reg r b) (Vm.reg r 0)))=_
 rw[he.move]
theorem zsf {b z:Int}{p:Int}:Vm.act c E (gx (ix 19 0 b 0) z) p f r=.next (if Vm.reg r b=0 then z else p+1) f r:=by
 show Vm.Act.next (if decide (Vm.reg r b=0)=true then z else p+1) f r=_
 by_cases h:Vm.reg r b=0
 ·rw[if_pos h,if_pos (by rw[decide_eq_true_eq]; exact h)]
 ·rw[if_neg h,if_neg (by rw[decide_eq_true_eq]; exact h)]
theorem zza {z:Int}{p:Int}:Vm.act c E (gx (ix 20 0 0 0) z) p f r=.next z f r:=rfl
end
/-! What an observable's code does. -/
def Gn (G:Int→Prop)(m m':Mk)(x:Int):Prop:=G x∨(m.next≤x∧x<m'.next)
def Got (c:Cd)(E:Vm.Env)(sh:Bool)(G:Int→Prop)(m:Mk)(o:Ob)(f:Int)(r:List Int)(y:Int):Prop:=
 ∃ k r',Steps c E m.ins.length f r o.2.1.ins.length f r' k∧k+m.ins.length≤o.2.1.ins.length∧r'.length=256∧(∀ x,0≤x→x<m.next→Vm.reg r' x=Vm.reg r x)∧Vm.reg r' o.1=y∧KnOk sh E (Gn G m o.2.1) o.2.1.known r'∧Gn G m o.2.1 o.1
def Lost (c:Cd)(E:Vm.Env)(m m':Mk)(u:List Nat)(f:Int)(r:List Int):Prop:=
 ∃ k r' p x,p∈u∧m.ins.length≤p∧c.ins[p]? = some x∧Steps c E m.ins.length f r x.to f r' k∧k+m.ins.length≤m'.ins.length
def ObSem (c:Cd)(E:Vm.Env)(sh:Bool)(G:Int→Prop)(m:Mk)(o:Ob)(f:Int)(r:List Int):Option Int→Prop
 |some y=>Got c E sh G m o f r y
 |none=>Lost c E m o.2.1 o.2.2 f r
structure Fine (c:Cd)(E:Vm.Env)(sh:Bool)(G:Int→Prop)(m:Mk)(r:List Int):Prop where
 nx:0≤m.next
 g:∀ x,G x→0≤x∧x<m.next
 len:r.length=256
 kn:KnOk sh E G m.known r
section
variable {c:Cd}{E:Vm.Env}{sh:Bool}{G:Int→Prop}{m:Mk}{f:Int}{r:List Int}{u:List Nat}
theorem qj (hR:Gen.right c=true)(he:EnvOk E){v:Val}(hv:1≤v.op∧v.op≤17)(h:Fine c E sh G m r)(hb:opB v→G v.b)(hc:opC v→G v.c)(ha:Ag c m.ins.length (au sh v m u).2.1):ObSem c E sh G m (au sh v m u) f r (lu E v r):=by
 unfold au at ha ⊢;cases hk:(if sh=true then m.known v else none) with
 |some x=>
  have hs:sh=true:=by
   cases hsh:sh with
   |true=>rfl
   |false=>rw[hsh] at hk; simp at hk
  rw[if_pos hs] at hk;obtain⟨h1,h2,h3,h4⟩:=h.kn hs v x hk;rw[h4];exact⟨0,r,Steps.refl,by simp,h.len,fun _ _ _=>rfl,rfl,h.kn.mono fun x hx=>.inl hx,.inl h1⟩
 |none=>
  rw[hk] at ha;simp only at ha ⊢;have A2:((m.reg.lay (v.ix m.next)).put v m.next).ins[m.ins.length]? = some (v.ix m.next):=dy m.reg _;have A1:((m.reg.lay (v.ix m.next)).put v m.next).ins.length=m.ins.length+1:=by show(m.ins++[_]).length=_; simp
  obtain⟨z,hz, -⟩:=ha m.ins.length _ (Nat.le_refl _) A2;have A3:=(zad hR hz).1;cases hy:lu E v r with
  |some y=>
   have hA:0≤m.next∧m.next<256:=A3 (by
    show eg v.op=true
    unfold eg;simp only[Bool.and_eq_true,decide_eq_true_eq,Bool.or_eq_true];omega)
   have e1:=Steps.one (f:=f) (r:=r) hz (zmv he hv hy);have e2:Vm.reg (Vm.setReg r m.next y) m.next=y:=zl h.len hA;have e3:∀ x,0≤x→x<m.next→Vm.reg (Vm.setReg r m.next y) x=Vm.reg r x:=fun x hx A5=>pv h.nx hx (by omega);refine⟨1,Vm.setReg r m.next y,?_,?_,tg h.len,e3,e2,?_,.inr ⟨Int.le_refl _,by show m.next<m.next+1; omega⟩⟩
   ·show Steps c E m.ins.length f r (((m.reg.lay (v.ix m.next)).put v m.next).ins.length:Int) f _ 1
    rw[A1];exact e1
   ·show 1+m.ins.length≤((m.reg.lay (v.ix m.next)).put v m.next).ins.length
    omega
   ·intro hs w x hx;have A4:=(h.kn.regs (r':=Vm.setReg r m.next y) fun x hx=>e3 x (h.g x hx).1 (h.g x hx).2) hs;have A0:((m.reg.lay (v.ix m.next)).put v m.next).known w=some x:=hx;unfold Mk.put at A0;simp only at A0;by_cases e:w=v
    ·rw[if_pos e] at A0;cases A0;subst e;refine⟨.inr ⟨Int.le_refl _,by show m.next<m.next+1; omega⟩,fun hh=>.inl (hb hh),fun hh=>.inl (hc hh),?_⟩;rw[e2,zgk (fun hh=>e3 _ (h.g _ (hb hh)).1 (h.g _ (hb hh)).2) (fun hh=>e3 _ (h.g _ (hc hh)).1 (h.g _ (hc hh)).2),hy]
    ·rw[if_neg e] at A0;obtain⟨g1,g2,g3,g4⟩:=A4 w x A0;exact⟨.inl g1,fun hh=>.inl (g2 hh),fun hh=>.inl (g3 hh),g4⟩
  |none=>
   have h2:v.op=2:=by
    unfold lu at hy;by_cases h2:v.op=2
    ·exact h2
    ·rw[if_neg h2] at hy;split at hy
     ·cases hy
     split at hy
     ·cases hy
     split at hy<;>cases hy
   refine⟨1,r,m.ins.length,_,?_,Nat.le_refl _,hz,Steps.one hz (zvy h2 hy),?_⟩
   ·show m.ins.length∈(if v.op=2 then u++[m.ins.length] else u)
    rw[if_pos h2]; simp
   ·show 1+m.ins.length≤((m.reg.lay (v.ix m.next)).put v m.next).ins.length
    omega
end
end Sm
end
section
open Go.RowKit
namespace Sm
open Co Gen Dn Gf
theorem zmf (sh:Bool)(d:Nat):∀(t:T) (m:Mk) (u:List Nat),∀ p∈u,p∈(obs sh d t m u).2.2:=by
 induction d with
 |zero=>intro t m u p hp; exact hp
 |succ d ih=>
  intro t m u;have hr:∀(v:Val) (m':Mk) (u':List Nat),∀ p∈u',p∈(au sh v m' u').2.2:=by
   intro v m' u' p hp;unfold au;split
   ·exact hp
   ·show p∈(if v.op=2 then u'++[m'.ins.length] else u')
    split
    ·exact List.mem_append_left _ hp
    ·exact hp
  rw[obs];split
  ·exact hr _ m u
  split
  ·exact hr _ m u
  split
  ·exact hr _ m u
  split
  ·exact fun p hp=>ih _ _ _ p (ih _ _ _ p hp)
  split
  ·exact fun p hp=>ih _ _ _ p (ih _ _ _ p hp)
  split
  ·exact fun p hp=>ih _ _ _ p (ih _ _ _ p (ih _ _ _ p hp))
  ·intro p hp;have g1:=ih (t.kid 0) m u p hp;obtain⟨o,A0⟩:∃ o,obs sh d (t.kid 0) m u=o:=⟨_,rfl⟩
   rw[A0] at g1;by_cases hl:1<t.ks.length
   ·have g2:=ih (t.kid 1) o.2.1 o.2.2 p g1;obtain⟨q,hq⟩:∃ q,obs sh d (t.kid 1) o.2.1 o.2.2=q:=⟨_,rfl⟩
    rw[hq] at g2;rw[iy hl rfl A0 rfl hq];cases sh
    ·exact g2
    ·exact hr _ q.2.1 q.2.2 p g2
   ·rw[iz hl rfl A0];cases sh
    ·exact g1
    ·exact hr _ o.2.1 o.2.2 p g1
theorem zaa {sh:Bool}{d:Nat}{t:T}{m:Mk}{u:List Nat}{out:Int}:∀ p∈u,p∈(aj sh out (obs sh d t m u)).2:=fun p hp=>zmf sh d t m u p hp
theorem jr (sh:Bool)(d:Nat)(t:T)(m:Mk)(u:List Nat)(ht:Obs t)(hd:t.depth≤d):m.next≤(obs sh d t m u).2.1.next:=by
 cases sh with
 |true=>exact zdn d t m u
 |false=>have:=(zbk d t m u ht hd).2; omega
def zzz (c:Cd)(E:Vm.Env)(sh:Bool)(G:Int→Prop)(out:Int)(m A:Mk)(f:Int)(r:List Int)(y:Int):Prop:=
 ∃ k r',Steps c E m.ins.length f r A.ins.length f r' k∧k+m.ins.length≤A.ins.length∧r'.length=256∧(∀ x,0≤x→x<m.next→x≠out→Vm.reg r' x=Vm.reg r x)∧Vm.reg r' out=y∧KnOk sh E (Gn G m A) A.known r'
def zwm (c:Cd)(E:Vm.Env)(sh:Bool)(G:Int→Prop)(out:Int)(m:Mk)(A:Mk × List Nat)(f:Int)(r:List Int):Option Int→Prop
 |some y=>zzz c E sh G out m A.1 f r y
 |none=>Lost c E m A.1 A.2 f r
section
variable {c:Cd}{E:Vm.Env}{sh:Bool}{G:Int→Prop}{m:Mk}{f:Int}{r:List Int}{u:List Nat}
theorem Lost.more {m' m'':Mk}{u':List Nat}(h:Lost c E m m' u f r)(hl:m'.ins.length≤m''.ins.length)(hu:∀ p∈u,p∈u'):Lost c E m m'' u' f r:=by
 obtain⟨k,r',p,x,h1,h2,h3,h4,h5⟩:=h;exact⟨k,r',p,x,hu p h1,h2,h3,h4,by omega⟩
theorem Lost.ahead {m0 m':Mk}{r0:List Int}{k0:Nat}(h:Lost c E m m' u f r)(hs:Steps c E m0.ins.length f r0 m.ins.length f r k0)(hk:k0+m0.ins.length≤m.ins.length):Lost c E m0 m' u f r0:=by
 obtain⟨k,r',p,x,h1,h2,h3,h4,h5⟩:=h;exact⟨k0+k,r',p,x,h1,by omega,h3,hs.trans h4,by omega⟩
theorem zyp (hR:Gen.right c=true)(he:EnvOk E){o:Ob}{out:Int}{ov:Option Int}(h:ObSem c E sh G m o f r ov)(hf:Fine c E sh G m r)(hG:∀ x,G x→x≠out)(h0:0≤out)(h1:out<m.next)(ha:Ag c m.ins.length (aj sh out o).1)(hl:m.ins.length≤o.2.1.ins.length):zwm c E sh G out m (aj sh out o) f r ov:=by
 have A0:=ej sh out o;cases ov with
 |none=>exact Lost.more h (by omega) fun p hp=>hp
 |some y=>
  obtain⟨k,r',a1,a2,a3,a4,a5,a6,a7⟩:=h;have A4:(aj sh out o).1.ins[o.2.1.ins.length]? = some (ix 18 out o.1 0):=by
   show((o.2.1.lay _).free sh _).ins[_]? = _
   rw[iu]; exact dy _ _
  obtain⟨z,hz, -⟩:=ha _ _ hl A4;have A3:=(zad hR hz).1 rfl;have hA:0≤out∧out<256:=A3;have e1:=Steps.one (f:=f) (r:=r') hz (zvx he);refine⟨k+1,Vm.setReg r' out (Vm.reg r' o.1),?_,by omega,tg a3,fun x hx A2 A1=>?_,?_,?_⟩
  ·rw[A0]; exact a1.trans e1
  ·rw[pv h0 hx (Ne.symm A1)]; exact a4 x hx A2
  ·rw[zl a3 hA]; exact a5
  ·have hk:(aj sh out o).1.known=o.2.1.known:=by show((o.2.1.lay _).free sh _).known=_; rw[znw]; rfl
   rw[hk];intro hs;have hn:(aj sh out o).1.next=o.2.1.next:=by subst hs; rfl
   refine((a6.mono (G':=Gn G m (aj sh out o).1) fun x hx=>by unfold Gn at hx ⊢; rw[hn]; exact hx).regs fun x hx=>?_) hs;rcases hx with hx|hx
   ·exact pv h0 (hf.g x hx).1 (Ne.symm (hG x hx))
   ·have:=hf.nx; exact pv h0 (by omega) (by omega)
theorem close {fin:Mk}{u':List Nat}{r2:List Int}{k:Nat}{y:Int}(h0:0≤m.next)(hs:Steps c E m.ins.length f r fin.ins.length f r2 k)(hk:k+m.ins.length≤fin.ins.length)(hl:r2.length=256)
  (hp:∀ x,0≤x→x<m.next→Vm.reg r2 x=Vm.reg r x) (hy:Vm.reg r2 m.next=y) (hn:sh=true→m.next<fin.next) (A1:KnOk sh E (Gn G m fin) fin.known r2):Got c E sh G m (m.next,fin.free sh (m.next+1),u') f r y:=by
 have A0:(fin.free sh (m.next+1)).ins.length=fin.ins.length:=df _ _ _;refine⟨k,r2,?_,?_,hl,hp,hy,?_,?_⟩
 ·show Steps c E _ f r ((fin.free sh (m.next+1)).ins.length:Int) f r2 k
  rw[A0]; exact hs
 ·show k+_≤(fin.free sh (m.next+1)).ins.length
  omega
 ·intro e;subst e;exact A1 rfl
 ·cases sh with
  |true=>exact .inr ⟨Int.le_refl _,hn rfl⟩
  |false=>exact .inr ⟨Int.le_refl _,by show m.next<m.next+1; omega⟩
theorem yk {A b:Mk}{r1:List Int}{out:Int}{y:Int}{k:Nat}(hf:Fine c E sh G m r)(hG:∀ x,G x→x≠out)(h1:out+1=m.next)(hl:r1.length=256)(hk:KnOk sh E (Gn G m A) A.known r1)(hn:m.next≤A.next)(hb:A.next≤b.next)(A0:b.known=A.known):
  Fine c E sh (Gn G m A) b r1∧∀ x,Gn G m A x→x≠out:=by
 refine⟨⟨?_,fun x hx=>?_,hl,by rw[A0]; exact hk⟩,fun x hx=>?_⟩
 ·have:=hf.nx; omega
 ·have:=hf.nx;rcases hx with hx|hx
  ·have:=hf.g x hx; omega
  ·omega
 ·rcases hx with hx|hx
  ·exact hG x hx
  ·omega
theorem zhb (out:Int)(o:Ob)(h:out+1≤o.2.1.next):out+1≤(aj sh out o).1.next:=by
 cases sh with
 |true=>exact h
 |false=>exact Int.le_refl _
end
end Sm
end
end Go.Proofs.YtanlmbbalamgkaaGreatDoor
