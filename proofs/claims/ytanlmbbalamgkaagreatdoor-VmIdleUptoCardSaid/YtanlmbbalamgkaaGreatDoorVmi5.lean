/- Proved: lemmas and contracts of the functions that the law reaches, part 5 of 36: Base, NumPlain, VmDate, GenUses, GenHas, RefNames. Conditions: as each states. -/
import Derived.Test.YtanlmbbalamgkaaGreatDoorChecked
import Derived.WalkKit
import Derived.ProofKit
import Derived.BigQuiet
import Derived.Test.YtanlmbbalamgkaaGreatDoorVmi2
namespace Go.Proofs.YtanlmbbalamgkaaGreatDoor
set_option linter.unusedVariables false
set_option linter.unusedSimpArgs false
section
open Go.RowKit
def Hid (p:Prop):Prop:=p
theorem Hid.out {p:Prop}(h:Hid p):p:=h
theorem hid' {p:Prop}(h:p):Hid p:=h
theorem zlc {p:Prop}(h:Hid p):p:=h
def Ret (v:Value)(w:World)(e:Ending)(w':World):Prop:=e=.returned v∧w'=w
def Drew (v:Value)(w:World)(e:Ending)(w':World):Prop:=e=.returned v∧∃ n,w'=w.drewN n
def zaj (v:Value)(w:World)(e:Ending)(w':World):Prop:=e=.returned v∧Below w.heap.size w w'
def qeb (w:World)(e:Ending)(w':World):Prop:=e=.returned (.bool true)∧Below w.heap.size w w'
theorem Below.drewn {B:Nat}{w w':World}(h:Below B w w')(n:Nat):Below B w (w'.drewN n):=by
 induction n with
 |zero=>exact h
 |succ n ih=>exact ih.drew
theorem zgp (w:World)(n:Nat):(w.drewN n).heap=w.heap:=by
 induction n with
 |zero=>rfl
 |succ n ih=>exact ih
theorem zcf {W:World}{a:Addr}{v:Value}(h:W.cell? a=some v):W.drew.cell? a=some v:=h
theorem Below.more {w w1 w2:World}(h:Below w.heap.size w w1)(h':Below w1.heap.size w1 w2):Below w.heap.size w w2:=h.trans (h'.mono h.size)
theorem zbw {s:ByteArray}(h:¬s=⟨#[]⟩):s.toList.isEmpty=false:=by
 rw[ByteArray.toList_eq,List.isEmpty_eq_false_iff]
 intro e
 apply h
 cases s
 simpa using e
theorem qfc (W:ByteArray)(h:0<W.size):W.data.toList.head? = some W[0]:=by
 rw[List.head?_eq_getElem?,Array.getElem?_toList]
 exact Array.getElem?_eq_getElem h
theorem qfs (s:ByteArray):s.data.toList.length=s.size:=Array.length_toList
theorem zmo {a b:ByteArray}(h:a.data.toList=b.data.toList):a=b:=by
 cases a; cases b; simp at h; subst h; rfl
theorem zur {s:ByteArray}(h:s.size=0):s=⟨#[]⟩:=by
 cases s with
 |mk a=>congr 1; exact Array.eq_empty_of_size_eq_zero h
theorem zhu {α:Type}(p:α→Bool)(l:List α):l.dropWhile p=[]↔l.all p=true:=by
 induction l with
 |nil=>simp
 |cons a l ih=>
  rw[List.dropWhile_cons]
  by_cases h:p a=true
  ·rw[if_pos h,ih]; simp[h]
  ·rw[if_neg h]; simp[h]
end
section
open Go.RowKit
namespace Num
def clamp (a:Int):Int:=if 1000000000000000<a then 1000000000000000 else if a < -1000000000000000 then -1000000000000000 else a
theorem qdp {a:Int}(h:1000000000000000<a):clamp a=1000000000000000:=by rw[clamp,if_pos h]
theorem qdo {a:Int}(h:a < -1000000000000000):clamp a = -1000000000000000:=by rw[clamp,if_neg (by omega),if_pos h]
theorem clamp_in {a:Int}(h : -1000000000000000≤a)(h':a≤1000000000000000):clamp a=a:=by rw[clamp,if_neg (by omega),if_neg (by omega)]
theorem clamp_le (a:Int):clamp a≤1000000000000000:=by unfold clamp; split<;>(try split)<;>omega
theorem clamp_ge (a:Int) : -1000000000000000≤clamp a:=by unfold clamp; split<;>(try split)<;>omega
theorem clamp_clamp (a:Int):clamp (clamp a)=clamp a:=clamp_in (clamp_ge a) (clamp_le a)
theorem clamp_neg (a:Int):clamp (-a) = -clamp a:=by unfold clamp; split<;>(try split)<;>(try split)<;>(try split)<;>omega
def add (a b:Int):Int:=clamp (clamp a+clamp b)
def sub (a b:Int):Int:=clamp (clamp a - clamp b)
def neg (a:Int):Int:= -clamp a
def whole (a:Int):Int:=(clamp a).tdiv 1000000
end Num
open Num
theorem zcg (a:Int)(w:World):Calls Tryz.prog 36 #[.int .i64 a] w (Ret (.int .i64 (clamp a)) w):=by
 rcases(by omega:1000000000000000<a∨a < -1000000000000000∨(-1000000000000000≤a∧a≤1000000000000000)) with h|h|⟨h,h'⟩
 ·rw[qdp h]
  have h1:¬a<1000000000000000:=by omega
  go_enter Tryz.func36,Tryz.ntmps36
  go_wp2_with fail
  all_goals first|(exfalso; omega)|skip
  all_goals go_ret
  all_goals exact⟨rfl,rfl⟩
 ·rw[qdo h]
  have h1:a<1000000000000000:=by omega
  have h2:a ≤ -1000000000000000:=by omega
  go_enter Tryz.func36,Tryz.ntmps36
  go_wp2_with fail
  all_goals first|(exfalso; omega)|skip
  all_goals go_ret
  all_goals exact⟨rfl,rfl⟩
 ·rw[clamp_in h h']
  by_cases e1:a=1000000000000000
  ·subst e1
   go_enter Tryz.func36,Tryz.ntmps36
   go_wp2_with fail
   all_goals go_ret
   all_goals exact⟨rfl,rfl⟩
  ·by_cases e2:a = -1000000000000000
   ·subst e2
    go_enter Tryz.func36,Tryz.ntmps36
    go_wp2_with fail
    all_goals go_ret
    all_goals exact⟨rfl,rfl⟩
   ·have h1:a<1000000000000000:=by omega
    have h2 : -1000000000000000<a:=by omega
    go_enter Tryz.func36,Tryz.ntmps36
    go_wp2_with fail
    all_goals go_ret
    all_goals exact⟨rfl,rfl⟩
theorem zwi (a b:Int)(w:World):Calls Tryz.prog 120 #[.int .i64 a,.int .i64 b] w (Ret (.int .i64 (add a b)) w):=by
 have a1:=clamp_le a
 have a2:=clamp_ge a
 have b1:=clamp_le b
 have b2:=clamp_ge b
 go_enter Tryz.func120,Tryz.ntmps120
 go_wp2_with fail
 refine(zcg a w).mono ?_
 rintro e w1 ⟨rfl,rfl⟩
 go_wp2_with fail
 refine(zcg b w1).mono ?_
 rintro e w2 ⟨rfl,rfl⟩
 go_wp2_with fail
 refine(zcg _ w2).mono ?_
 rintro e w3 ⟨rfl,rfl⟩
 go_wp2_with fail
 go_ret
 exact⟨rfl,rfl⟩
theorem zvq (a b:Int)(w:World):Calls Tryz.prog 121 #[.int .i64 a,.int .i64 b] w (Ret (.int .i64 (sub a b)) w):=by
 have a1:=clamp_le a
 have a2:=clamp_ge a
 have b1:=clamp_le b
 have b2:=clamp_ge b
 go_enter Tryz.func121,Tryz.ntmps121
 go_wp2_with fail
 refine(zcg a w).mono ?_
 rintro e w1 ⟨rfl,rfl⟩
 go_wp2_with fail
 refine(zcg b w1).mono ?_
 rintro e w2 ⟨rfl,rfl⟩
 go_wp2_with fail
 refine(zcg _ w2).mono ?_
 rintro e w3 ⟨rfl,rfl⟩
 go_wp2_with fail
 go_ret
 exact⟨rfl,rfl⟩
theorem zpw (a:Int)(w:World):Calls Tryz.prog 63 #[.int .i64 a] w (Ret (.int .i64 (neg a)) w):=by
 have a1:=clamp_le a
 have a2:=clamp_ge a
 go_enter Tryz.func63,Tryz.ntmps63
 go_wp2_with fail
 refine(zcg a w).mono ?_
 rintro e w1 ⟨rfl,rfl⟩
 go_wp2_with fail
 go_ret
 exact⟨rfl,rfl⟩
theorem zja (a:Int)(w:World):Calls Tryz.prog 123 #[.int .i64 a] w (Ret (.int .i64 (whole a)) w):=by
 have a1:=clamp_le a
 have a2:=clamp_ge a
 go_enter Tryz.func123,Tryz.ntmps123
 go_wp2_with fail
 refine(zcg a w).mono ?_
 rintro e w1 ⟨rfl,rfl⟩
 go_wp2_with fail
 go_ret
 exact⟨rfl,rfl⟩
theorem zjc (a:Int)(w:World):Calls Tryz.prog 117 #[.int .i64 a] w (Ret (.tuple #[.int .u64 ((clamp a).natAbs:Int),.bool (decide (clamp a<0))]) w):=by
 have a1:=clamp_le a
 have a2:=clamp_ge a
 go_enter Tryz.func117,Tryz.ntmps117
 go_wp2_with fail
 refine(zcg a w).mono ?_
 rintro e w1 ⟨rfl,rfl⟩
 generalize clamp a=c at *
 by_cases h:c<0
 ·have e1:IntKind.u64.wrap (-c) = -c:=by rw[IntKind.wrap_u64]; omega
  have e2:((c.natAbs:Nat):Int) = -c:=by omega
  go_wp2_with fail
  go_ret2
  refine⟨?_,rfl⟩
  rw[e2,decide_eq_true h]
  rfl
 ·have e1:IntKind.u64.wrap c=c:=by rw[IntKind.wrap_u64]; omega
  have e2:((c.natAbs:Nat):Int)=c:=by omega
  go_wp2_with fail
  go_ret2
  refine⟨?_,rfl⟩
  rw[e2,decide_eq_false (by omega)]
  rfl
end
section
open Go.RowKit
set_option maxRecDepth 100000
namespace Dt
def leap (y:Int):Bool:=decide (y % 4=0) && (!decide (y % 100=0) || decide (y % 400=0))
def days (y:Int):Int:=if leap y then 366 else 365
def ahead (y:Int):Int:=365 * (y - 1 - 1899)+(y - 1) / 4 - (y - 1) / 100+(y - 1) / 400 - 460
def clamp (d:Int):Int:=max 0 (min 73048 d)
def plus (d n:Int):Int:=clamp (clamp d+max (-73048) (min 73048 n))
theorem clamp_ge (d:Int):0≤clamp d:=by unfold clamp; omega
theorem clamp_le (d:Int):clamp d≤73048:=by unfold clamp; omega
end Dt
theorem zda (d:Int)(w:World):Calls Tryz.prog 113 #[.int .i64 d] w (Ret (.int .i64 (Dt.clamp d)) w):=by
 rcases(by omega:73048<d∨d=73048∨(0<d∧d<73048)∨d=0∨d<0) with h|h|⟨h,h'⟩|h|h
 ·rw[show Dt.clamp d=73048 by unfold Dt.clamp; omega]
  have h1:¬d<73048:=by omega
  go_enter Tryz.func113,Tryz.ntmps113
  go_wp2_with fail
  go_ret
  exact⟨rfl,rfl⟩
 ·subst h
  go_enter Tryz.func113,Tryz.ntmps113
  go_wp2_with fail
  go_ret
  exact⟨rfl,rfl⟩
 ·rw[show Dt.clamp d=d by unfold Dt.clamp; omega]
  have h1:d≤73048:=by omega
  go_enter Tryz.func113,Tryz.ntmps113
  go_wp2_with fail
  go_ret
  exact⟨rfl,rfl⟩
 ·subst h
  go_enter Tryz.func113,Tryz.ntmps113
  go_wp2_with fail
  go_ret
  exact⟨rfl,rfl⟩
 ·rw[show Dt.clamp d=0 by unfold Dt.clamp; omega]
  have h1:d<73048:=by omega
  go_enter Tryz.func113,Tryz.ntmps113
  go_wp2_with fail
  go_ret
  exact⟨rfl,rfl⟩
theorem zml (d n:Int)(w:World):Calls Tryz.prog 59 #[.int .i64 d,.int .i64 n] w (Ret (.int .i64 (Dt.plus d n)) w):=by
 have a1:=Dt.clamp_ge d
 have a2:=Dt.clamp_le d
 have HP:=hid' (show Dt.plus d n=Dt.clamp (Dt.clamp d+max (-73048) (min 73048 n)) from rfl)
 generalize Dt.plus d n=P at *
 have HC:=hid' (zda d w)
 generalize Dt.clamp d=c at *
 rcases(by omega:73048<n∨n=73048∨(-73048<n∧n<73048)∨n = -73048∨n < -73048) with h|h|⟨h,h'⟩|h|h
 ·have e:=hid' (show max (-73048) (min 73048 n)=73048 by omega)
  rw[e.out] at HP
  have h1:¬n<73048:=by omega
  go_enter Tryz.func59,Tryz.ntmps59
  go_wp2_with (first|(refine HC.out.mono ?_; rintro e w' ⟨rfl,rfl⟩)|(refine(zda _ _).mono ?_; rintro e w' ⟨rfl,rfl⟩))
  go_ret
  exact⟨by rw[HP.out]; rfl,rfl⟩
 ·subst h
  go_enter Tryz.func59,Tryz.ntmps59
  go_wp2_with (first|(refine HC.out.mono ?_; rintro e w' ⟨rfl,rfl⟩)|(refine(zda _ _).mono ?_; rintro e w' ⟨rfl,rfl⟩))
  go_ret
  exact⟨by rw[HP.out]; rfl,rfl⟩
 ·have e:=hid' (show max (-73048) (min 73048 n)=n by omega)
  rw[e.out] at HP
  go_enter Tryz.func59,Tryz.ntmps59
  go_wp2_with (first|(refine HC.out.mono ?_; rintro e w' ⟨rfl,rfl⟩)|(refine(zda _ _).mono ?_; rintro e w' ⟨rfl,rfl⟩))
  go_ret
  exact⟨by rw[HP.out]; rfl,rfl⟩
 ·subst h
  go_enter Tryz.func59,Tryz.ntmps59
  go_wp2_with (first|(refine HC.out.mono ?_; rintro e w' ⟨rfl,rfl⟩)|(refine(zda _ _).mono ?_; rintro e w' ⟨rfl,rfl⟩))
  go_ret
  exact⟨by rw[HP.out]; rfl,rfl⟩
 ·have e:=hid' (show max (-73048) (min 73048 n) = -73048 by omega)
  rw[e.out] at HP
  have h1:n<73048:=by omega
  go_enter Tryz.func59,Tryz.ntmps59
  go_wp2_with (first|(refine HC.out.mono ?_; rintro e w' ⟨rfl,rfl⟩)|(refine(zda _ _).mono ?_; rintro e w' ⟨rfl,rfl⟩))
  go_ret
  exact⟨by rw[HP.out]; rfl,rfl⟩
theorem ztc (y:Int)(hy:0≤y∧y≤100000)(w:World):Calls Tryz.prog 178 #[.int .i64 y] w (Ret (.bool (Dt.leap y)) w):=by
 have e4:y.tmod 4=y % 4:=Int.tmod_eq_emod_of_nonneg hy.1
 have e5:y.tmod 100=y % 100:=Int.tmod_eq_emod_of_nonneg hy.1
 have e6:y.tmod 400=y % 400:=Int.tmod_eq_emod_of_nonneg hy.1
 have HL:=hid' (show Dt.leap y=(decide (y % 4=0) && (!decide (y % 100=0) || decide (y % 400=0))) from rfl)
 generalize Dt.leap y=L at *
 by_cases h4:y % 4=0
 ·by_cases h1:y % 100=0
  ·by_cases h2:y % 400=0
   ·rw[decide_eq_true h4,decide_eq_true h1,decide_eq_true h2] at HL
    go_enter Tryz.func178,Tryz.ntmps178
    go_wp2_with fail
    go_ret
    exact⟨by rw[HL.out]; rfl,rfl⟩
   ·rw[decide_eq_true h4,decide_eq_true h1,decide_eq_false h2] at HL
    have g2:(y % 400 == 0)=false:=by rw[beq_eq_false_iff_ne]; exact h2
    go_enter Tryz.func178,Tryz.ntmps178
    go_wp2_with fail
    go_ret
    exact⟨by rw[HL.out]; rfl,rfl⟩
  ·have g1:(y % 100 == 0)=false:=by rw[beq_eq_false_iff_ne]; exact h1
   rw[decide_eq_true h4,decide_eq_false h1] at HL
   go_enter Tryz.func178,Tryz.ntmps178
   go_wp2_with fail
   go_ret
   exact⟨by rw[HL.out]; rfl,rfl⟩
 ·have g4:(y % 4 == 0)=false:=by rw[beq_eq_false_iff_ne]; exact h4
  rw[decide_eq_false h4] at HL
  go_enter Tryz.func178,Tryz.ntmps178
  go_wp2_with fail
  go_ret
  exact⟨by rw[HL.out]; rfl,rfl⟩
theorem qdl (y:Int)(hy:0≤y∧y≤100000)(w:World):Calls Tryz.prog 177 #[.int .i64 y] w (Ret (.int .i64 (Dt.days y)) w):=by
 have HC:=hid' (ztc y hy w)
 have HD:=hid' (show Dt.days y=if Dt.leap y then 366 else 365 from rfl)
 cases hl:Dt.leap y with
 |true=>
  rw[hl] at HC HD
  rw[HD.out]
  clear hl
  go_enter Tryz.func177,Tryz.ntmps177
  go_wp2_with (refine HC.out.mono ?_; rintro e w' ⟨rfl,rfl⟩)
  go_ret
  exact⟨rfl,rfl⟩
 |false=>
  rw[hl] at HC HD
  rw[HD.out]
  clear hl
  go_enter Tryz.func177,Tryz.ntmps177
  go_wp2_with (refine HC.out.mono ?_; rintro e w' ⟨rfl,rfl⟩)
  go_ret
  exact⟨rfl,rfl⟩
theorem zrm (y:Int)(hy:1≤y∧y≤100000)(w:World):Calls Tryz.prog 176 #[.int .i64 y] w (Ret (.int .i64 (Dt.ahead y)) w):=by
 have e4:(y - 1).tdiv 4=(y - 1) / 4:=Int.tdiv_eq_ediv_of_nonneg (by omega)
 have e5:(y - 1).tdiv 100=(y - 1) / 100:=Int.tdiv_eq_ediv_of_nonneg (by omega)
 have e6:(y - 1).tdiv 400=(y - 1) / 400:=Int.tdiv_eq_ediv_of_nonneg (by omega)
 have HL:=hid' (show Dt.ahead y=365 * (y - 1 - 1899)+(y - 1) / 4 - (y - 1) / 100+(y - 1) / 400 - 460 from rfl)
 generalize Dt.ahead y=L at *
 go_enter Tryz.func176,Tryz.ntmps176
 go_wp2_with fail
 go_ret
 exact⟨by rw[HL.out]; rfl,rfl⟩
end
section
open Go.RowKit
set_option maxRecDepth 100000
namespace Gen
def usesT (op:Int):ByteArray:=
 if op=1 then ⟨#[65,78]⟩ else
 if op=2 then ⟨#[65,83,78,84]⟩ else
 if op=3 then ⟨#[65,78]⟩ else
 if op=4 then ⟨#[65,66]⟩ else
 if op=5 then ⟨#[65,66,67]⟩ else
 if op=6 then ⟨#[65,66,67]⟩ else
 if op=7 then ⟨#[65,66,67]⟩ else
 if op=8 then ⟨#[65,66,67]⟩ else
 if op=9 then ⟨#[65,66,67]⟩ else
 if op=10 then ⟨#[65,66,67]⟩ else
 if op=11 then ⟨#[65,66,67]⟩ else
 if op=12 then ⟨#[65,66]⟩ else
 if op=13 then ⟨#[65,66,67]⟩ else
 if op=14 then ⟨#[65,66,67]⟩ else
 if op=15 then ⟨#[65,66,67]⟩ else
 if op=16 then ⟨#[65,66,67]⟩ else
 if op=17 then ⟨#[65,66,67]⟩ else
 if op=18 then ⟨#[65,66]⟩ else
 if op=19 then ⟨#[66,84]⟩ else
 if op=20 then ⟨#[84]⟩ else
 if op=21 then ⟨#[78,84]⟩ else
 if op=22 then ⟨#[78,84]⟩ else
 if op=23 then ⟨#[66]⟩ else
 if op=24 then ⟨#[]⟩ else
 if op=25 then ⟨#[65]⟩ else
 if op=26 then ⟨#[66]⟩ else
 if op=27 then ⟨#[83]⟩ else
 if op=28 then ⟨#[78]⟩ else
 if op=29 then ⟨#[78]⟩ else
 if op=30 then ⟨#[]⟩ else
 ⟨#[]⟩
def isOp (op:Int):Bool:=decide (1≤op) && decide (op≤30)
def hasB (s:ByteArray)(c:Nat):Bool:=s.data.toList.any fun x=>decide (x.toNat=c)
theorem op_cases (op:Int):op=1∨op=2∨op=3∨op=4∨op=5∨op=6∨op=7∨op=8∨op=9∨op=10∨op=11∨op=12∨op=13∨op=14∨op=15∨op=16∨op=17∨op=18∨op=19∨op=20∨op=21∨op=22∨op=23∨op=24∨op=25∨op=26∨op=27∨op=28∨op=29∨op=30∨(op<1∨30<op):=by omega
theorem zsg {op:Int}(h:op<1∨30<op):usesT op=⟨#[]⟩:=by
 unfold usesT
 iterate 10
  rw[if_neg (by omega)]
  rw[if_neg (by omega)]
  rw[if_neg (by omega)]
theorem qbm (op:Int):hasB (usesT op) 65=useA op∧hasB (usesT op) 66=useB op∧hasB (usesT op) 67=useC op∧hasB (usesT op) 84=useT op:=by
 rcases op_cases op with rfl|rfl|rfl|rfl|rfl|rfl|rfl|rfl|rfl|rfl|rfl|rfl|rfl|rfl|rfl|rfl|rfl|rfl|rfl|rfl|rfl|rfl|rfl|rfl|rfl|rfl|rfl|rfl|rfl|rfl|h
 all_goals first
  |decide
  |(rw[zsg h]
    have zA:useA op=false:=by unfold useA; simp only[Bool.or_eq_false_iff,Bool.and_eq_false_iff,decide_eq_false_iff_not]; omega
    have zB:useB op=false:=by unfold useB; simp only[Bool.or_eq_false_iff,Bool.and_eq_false_iff,decide_eq_false_iff_not]; omega
    have zC:useC op=false:=by unfold useC; simp only[Bool.or_eq_false_iff,Bool.and_eq_false_iff,decide_eq_false_iff_not]; omega
    have zT:useT op=false:=by unfold useT; simp only[Bool.or_eq_false_iff,Bool.and_eq_false_iff,decide_eq_false_iff_not]; omega
    rw[zA,zB,zC,zT]
    exact⟨rfl,rfl,rfl,rfl⟩)
end Gen
open Gen
end
end Go.Proofs.YtanlmbbalamgkaaGreatDoor
