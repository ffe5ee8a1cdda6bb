/- Proved: lemmas and contracts of the functions that the law reaches, part 11 of 36: GenFields, VmDate2. Conditions: as each states. -/
import Derived.Laws.CopyOwn
import Derived.Test.YtanlmbbalamgkaaGreatDoorVmi9
namespace Go.Proofs.YtanlmbbalamgkaaGreatDoor
set_option linter.unusedVariables false
set_option linter.unusedSimpArgs false
section
open Go.RowKit
open Gen
set_option maxRecDepth 100000
theorem zci (n low high:Int)(w:World):Calls Tryz.prog 25 #[.int .i64 n,.int .i64 low,.int .i64 high] w (Ret (.bool (Gen.within n low high)) w):=by
 by_cases h1:low≤n
 ·have g1:decide (low≤n)=true:=decide_eq_true h1
  have e:=hid' (show Gen.within n low high=decide (n≤high) by unfold Gen.within; rw[g1,Bool.true_and])
  clear h1
  go_enter Tryz.func25,Tryz.ntmps25
  go_wp2_with fail
  go_ret
  refine⟨?_,rfl⟩
  rw[e.out]
  rfl
 ·have g1:decide (low≤n)=false:=decide_eq_false h1
  have e:=hid' (show Gen.within n low high=false by unfold Gen.within; rw[g1,Bool.false_and])
  clear h1
  go_enter Tryz.func25,Tryz.ntmps25
  go_wp2_with fail
  go_ret
  refine⟨?_,rfl⟩
  rw[e.out]
  rfl
def zxe (i:Nat):ByteArray:=if i=0 then ⟨#[45]⟩ else Gen.usesT (i:Int)
def fcells:Array Value:=((List.range 31).map fun i=>Value.string (zxe i)).toArray
theorem zno:fcells.size=31:=by simp[fcells]
theorem zpb:fcells.all (·.oneCell')=true:=by simp[fcells,Value.oneCell']
theorem zve (i:Nat)(hi:i<31):fcells[i]? = some (.string (zxe i)):=by simp[fcells,hi]
theorem znn (w:World)(o:Obj){n:Nat}(h:w.heap.size=n):(w.alloc o).heap[n]? = some o:=by
 subst h
 show(w.heap.push o)[w.heap.size]? = some o
 rw[Array.getElem?_push_size]
theorem zem {P:Program}(w:World)(cs old:Array Value)(t:TypeId)(n:Nat)(hn:cs.size=n)(ho:old.size=n)(h1:cs.all (·.oneCell')=true):(storeCells ⟨w.heap.size,0,none⟩ cs.toList).run P (w.alloc (.cells old t))=.ok () ((w.alloc (.cells old t)).setRow w.heap.size cs):=by
 have:=run_storeCells_from (P:=P) w.heap.size t cs.toList 0 old (w.alloc (.cells old t)) (znn _ _ rfl) (by rw[Array.length_toList,hn,ho]; omega) (fun v hv=>(Array.all_eq_true_iff_forall_mem.1 h1) v (by simpa using hv))
 rw[this]
 simp
theorem zez (w:World)(cs:Array Value)(ob:Obj):Below w.heap.size w ((w.alloc ob).setRow w.heap.size cs):=
 below_setRow ((Below.refl _ _).alloc (Nat.le_refl _) _) (Nat.le_refl _) _
theorem zko (w:World)(cs old:Array Value)(t:TypeId)(i:Nat):((w.alloc (.cells old t)).setRow w.heap.size cs).cell? ⟨w.heap.size,i,none⟩=cs[i]?:=
 cell_of_row _ _ _ cs t (0,0) (setRow_heap _ _ _ _ _ _ (znn _ _ rfl))
set_option maxHeartbeats 8000000 in
theorem zxh (op:Int)(w:World):Calls Tryz.prog 55 #[.int .i64 op] w (zaj (.tuple #[.string (Gen.usesT op),.bool (Gen.isOp op)]) w):=by
 by_cases h:op<1∨30<op
 ·have e1:=hid' (zsg h)
  have e2:=hid' (show Gen.isOp op=false by unfold Gen.isOp; simp; omega)
  rw[e1.out,e2.out]
  go_enter Tryz.func55,Tryz.ntmps55
  go_wp2_with (first|(refine wpList_build rfl 148 _ rfl (by kernel_rfl) ?_; refine zlc ?_)|fail)
  refine hid' ?_
  generalize hg:Option.getD (Program.built _ _ _) _=cs
  obtain rfl:cs=fcells:=by
   rw[←hg]
   kernel_rfl
  clear hg
  go_wp2_with fail
  rw[zem w fcells _ _ 31 zno rfl zpb]
  generalize hs:World.setRow _ _ _=ws
  have hb:=hid' (show Below w.heap.size w ws by rw[←hs]; exact zez w _ _)
  clear hs
  by_cases h1:op<1
  ·have g1:decide (op<1)=true:=decide_eq_true h1
   clear h h1
   go_wp2_with fail
   go_ret2
   exact⟨rfl,hb.out⟩
  ·have g1:decide (op<1)=false:=decide_eq_false h1
   have g2:decide (31≤op)=true:=decide_eq_true (by omega)
   clear h h1
   go_wp2_with fail
   go_ret2
   exact⟨rfl,hb.out⟩
 ·obtain⟨i,rfl⟩:∃ i:Nat,op=(i:Int):=⟨op.toNat,by omega⟩
  have e2:=hid' (show Gen.isOp (i:Int)=true by unfold Gen.isOp; simp; omega)
  have hc:=zve i (by omega)
  rw[zxe,if_neg (by omega)] at hc
  have g1:decide ((i:Int)<1)=false:=decide_eq_false (by omega)
  have g2:decide (31≤(i:Int))=false:=decide_eq_false (by omega)
  have g3:(0:Int)≤(i:Int)∧(i:Int)<31:=by omega
  have g4:i<31:=by omega
  rw[e2.out]
  clear h
  go_enter Tryz.func55,Tryz.ntmps55
  go_wp2_with (first|(refine wpList_build rfl 148 _ rfl (by kernel_rfl) ?_; refine zlc ?_)|fail)
  refine hid' ?_
  generalize hg:Option.getD (Program.built _ _ _) _=cs
  obtain rfl:cs=fcells:=by
   rw[←hg]
   kernel_rfl
  clear hg
  go_wp2_with fail
  rw[zem w fcells _ _ 31 zno rfl zpb]
  generalize hs:World.setRow _ _ _=ws
  have hb:=hid' (show Below w.heap.size w ws by rw[←hs]; exact zez w _ _)
  have hcell:ws.cell? ⟨w.heap.size,i,none⟩=some (.string (Gen.usesT (i:Int))):=by rw[←hs,zko]; exact hc
  clear hs hc
  go_wp2_with fail
  go_ret2
  exact⟨rfl,hb.out⟩
end
section
open Go.RowKit
set_option maxRecDepth 100000
namespace Dt
def feb (y:Int):Int:=if leap y then 29 else 28
def lens (f:Int):List Int:=[31,f,31,30,31,30,31,31,30,31,30,31]
def lcells (f:Int):Array Value:=#[.int .i64 31,.int .i64 f,.int .i64 31,.int .i64 30,.int .i64 31,.int .i64 30,.int .i64 31,.int .i64 31,.int .i64 30,.int .i64 31,.int .i64 30,.int .i64 31]
theorem lcells_at (f:Int)(i:Nat)(h:i<12):(lcells f)[i]? = some (.int .i64 ((lens f)[i]?.getD 0)):=by
 rcases(by omega:i=0∨i=1∨i=2∨i=3∨i=4∨i=5∨i=6∨i=7∨i=8∨i=9∨i=10∨i=11) with rfl|rfl|rfl|rfl|rfl|rfl|rfl|rfl|rfl|rfl|rfl|rfl<;>rfl
end Dt
theorem ztk (w:World)(o1 o2:Obj):((w.alloc o1).alloc o2).heap[w.heap.size]? = some o1:=by
 show((w.heap.push o1).push o2)[w.heap.size]? = some o1
 rw[Array.getElem?_push,if_neg (by simp),Array.getElem?_push_size]
theorem zrj (w:World)(o1 o2:Obj):Below w.heap.size w ((w.alloc o1).alloc o2):=
 ((Below.refl _ _).alloc (Nat.le_refl _) _).alloc (by show _≤(w.heap.push o1).size; simp) _
set_option maxHeartbeats 4000000 in
theorem zjl (y:Int)(hy:0≤y∧y≤100000)(w:World):Calls Tryz.prog 156 #[.int .i64 y] w (zaj (.agg (Dt.lcells (Dt.feb y))) w):=by
 have HD:=hid' (show Dt.feb y=if Dt.leap y then 29 else 28 from rfl)
 have HC:=fun W=>hid' (ztc y hy W)
 cases hl:Dt.leap y with
 |true=>
  rw[hl,if_pos rfl] at HD
  rw[HD.out]
  rw[hl] at HC
  clear hl
  go_enter Tryz.func156,Tryz.ntmps156
  go_wp2_with (refine(HC _).out.mono ?_; rintro e w' ⟨rfl,rfl⟩)
  exact bodyPost_ret (results_cell_row rfl _ _ w.heap.size 177 (Dt.lcells 29) (0,0) _ rfl (ztk _ _ _) Tryz.underlying177 rfl (by kernel_rfl)) rfl ⟨rfl,zrj _ _ _⟩
 |false=>
  rw[hl,if_neg (by decide)] at HD
  rw[HD.out]
  rw[hl] at HC
  clear hl
  go_enter Tryz.func156,Tryz.ntmps156
  go_wp2_with (refine(HC _).out.mono ?_; rintro e w' ⟨rfl,rfl⟩)
  exact bodyPost_ret (results_cell_row rfl _ _ w.heap.size 177 (Dt.lcells 28) (0,0) _ rfl (ztk _ _ _) Tryz.underlying177 rfl (by kernel_rfl)) rfl ⟨rfl,zrj _ _ _⟩
namespace Dt
def mfind:List Int→Int→Int→Int × Int × Int
 | [],_,_=>(0,0,30)
 |k::t,i,d=>if d<k then(i+1,d+1,0) else mfind t (i+1) (d - k)
def yr:Nat→Int→Int→Int
 |0,_,y=>y
 |k+1,d,y=>if days y≤d - ahead y then yr k d (y+1) else y
def yearOf (d:Int):Int:=yr (2100 - (1900+d / 366)).toNat d (1900+d / 366)
def parts (d:Int):Int × Int × Int × Int:=
 let r:=mfind (lens (feb (yearOf d))) 0 (d - ahead (yearOf d))
 if r.2.2=0 then(yearOf d,r.1,r.2.1,0) else(0,0,0,30)
theorem days_pos (y:Int):365≤days y:=by unfold days; split<;>omega
theorem ahead_in {y:Int}(h:1900≤y)(h2:y≤2100):0≤ahead y∧ahead y≤73049:=by unfold ahead; omega
theorem feb_in (y:Int):feb y=28∨feb y=29:=by unfold feb; split<;>simp
theorem len_in (y:Int)(i:Nat)(h:i<12):28≤((lens (feb y))[i]?).getD 0∧((lens (feb y))[i]?).getD 0≤31:=by
 have:=feb_in y
 rcases(by omega:i=0∨i=1∨i=2∨i=3∨i=4∨i=5∨i=6∨i=7∨i=8∨i=9∨i=10∨i=11) with rfl|rfl|rfl|rfl|rfl|rfl|rfl|rfl|rfl|rfl|rfl|rfl<;>simp[lens]<;>omega
theorem yr_go {d y:Int}(h:1900≤y)(h2:y≤2100)(hd:d≤73048)(hc:days y≤d - ahead y):y<2100∧yr (2100 - y).toNat d y=yr (2100 - (y+1)).toNat d (y+1):=by
 have:=days_pos y
 have h3:y<2100:=by
  rcases(by omega:y<2100∨y=2100) with h|h
  ·exact h
  ·subst h
   have:ahead 2100=73049:=by decide
   omega
 refine⟨h3,?_⟩
 rw[show(2100 - y).toNat=(2100 - (y+1)).toNat+1 by omega,yr,if_pos hc]
theorem yr_end {d y:Int}(hc:¬days y≤d - ahead y):∀ k,yr k d y=y
 |0=>rfl
 |k+1=>by rw[yr,if_neg hc]
theorem zra (f:Int)(i:Nat)(h:i<12):(lens f).drop i=((lens f)[i]?.getD 0)::(lens f).drop (i+1):=by
 rcases(by omega:i=0∨i=1∨i=2∨i=3∨i=4∨i=5∨i=6∨i=7∨i=8∨i=9∨i=10∨i=11) with rfl|rfl|rfl|rfl|rfl|rfl|rfl|rfl|rfl|rfl|rfl|rfl<;>rfl
theorem mfind_go {f d:Int}{i:Nat}(h:i<12)(hd:¬d<((lens f)[i]?).getD 0):mfind ((lens f).drop i) (i:Int) d=mfind ((lens f).drop (i+1)) ((i+1:Nat):Int) (d - ((lens f)[i]?).getD 0):=by
 rw[zra f i h,mfind,if_neg hd]; rfl
theorem mfind_end {f d:Int}{i:Nat}(h:i<12)(hd:d<((lens f)[i]?).getD 0):mfind ((lens f).drop i) (i:Int) d=((i:Int)+1,d+1,0):=by
 rw[zra f i h,mfind,if_pos hd]
theorem mfind_out {f d:Int}:mfind ((lens f).drop 12) 12 d=(0,0,30):=rfl
end Dt
theorem zjq {P:Program}(w:World)(T E:TypeId)(n:Nat)(cs:Array Value)(v:Value)(hT:P.underlying T=some (.array n E))(hs:∀ w,(Go.sizeOf E).run P w=.ok 1 w)
  (ha:∀ w,(isAgg E).run P w=.ok false w) (t:Nat) (ht:t<n) (hc:cs[t]? = some v):(Instr.index T (.agg cs) (.int .i64 t)).run P w=.ok v w:=by
 have hi:(0:Int)≤(t:Int)∧(t:Int)<(n:Int):=by omega
 have hi2:¬n≤t:=by omega
 simp[Instr.index,asIntOf,run_underlying hT,hs,ha,hi,hi2,hc,go_sem]
theorem zcd {fn:Func}{t u v x:Tmp}(h:fn.results=#[.tmp t,.tmp u,.tmp v,.tmp x])(tmps:Array Value)(P:Program)(w:World):
  (results fn tmps).run P w=.ok (.tuple #[tmps.getD t undef,tmps.getD u undef,tmps.getD v undef,tmps.getD x undef]) w:=by
 simp[results,h]
set_option maxHeartbeats 4000000 in
theorem zlw (d:Int)(hd:0≤d∧d≤73048)(w:World):Calls Tryz.prog 154 #[.int .i64 d] w (zaj (.tuple #[.int .i64 (Dt.parts d).1,.int .i64 (Dt.parts d).2.1,.int .i64 (Dt.parts d).2.2.1,.int .i64 (Dt.parts d).2.2.2]) w):=by
 have HP:=hid' (show Dt.parts d=if(Dt.mfind (Dt.lens (Dt.feb (Dt.yearOf d))) 0 (d - Dt.ahead (Dt.yearOf d))).2.2=0 then(Dt.yearOf d,(Dt.mfind (Dt.lens (Dt.feb (Dt.yearOf d))) 0 (d - Dt.ahead (Dt.yearOf d))).1,(Dt.mfind (Dt.lens (Dt.feb (Dt.yearOf d))) 0 (d - Dt.ahead (Dt.yearOf d))).2.1,0) else(0,0,0,30) from rfl)
 generalize Dt.parts d=R at *
 have e1:d.tdiv 366=d / 366:=Int.tdiv_eq_ediv_of_nonneg hd.1
 have hy0:1900≤1900+d / 366∧1900+d / 366≤2100:=by omega
 have HY:=hid' (show Dt.yearOf d=Dt.yr (2100 - (1900+d / 366)).toNat d (1900+d / 366) from rfl)
 generalize Dt.yearOf d=Y at *
 obtain⟨y0,he0⟩:∃ y0,1900+d / 366=y0:=⟨_,rfl⟩
 rw[he0] at hy0 HY
 go_enter Tryz.func154,Tryz.ntmps154
 go_wp2_with fail
 go_loopw [8] (fun yv wr=>∃ y:Int,yv=.int .i64 y∧(1900≤y∧y≤2100)∧Hid (Y=Dt.yr (2100 - y).toNat d y)∧wr=w) (fun yv _=>2100 - (intOf yv).toNat)
 case atStart=>exact⟨_,rfl,by omega,HY,rfl⟩
 case round=>
  clear HY
  obtain⟨y,rfl,hy,HY,rfl⟩:=hrel
  have HA:=hid' (zrm y (by omega) wr)
  have HD:=hid' (qdl y (by omega) wr)
  have hA:=Dt.ahead_in hy.1 hy.2
  have hD:365≤Dt.days y∧Dt.days y≤366:=⟨Dt.days_pos y,by unfold Dt.days; split<;>omega⟩
  by_cases hc:Dt.days y≤d - Dt.ahead y
  ·obtain⟨h1,h2⟩:=Dt.yr_go hy.1 hy.2 (by omega) hc
   have HY2:=hid' (HY.out.trans h2)
   clear h2
   generalize Dt.ahead y=A at *
   generalize Dt.days y=D at *
   go_wp2_with (first|(refine HA.out.mono ?_; rintro e w' ⟨rfl,rfl⟩)|(refine HD.out.mono ?_; rintro e w' ⟨rfl,rfl⟩))
   go_roundw
   case rel=>exact⟨y+1,rfl,by omega,HY2,trivial⟩
   case measure=>simp[intOf]; omega
  ·have h2:=Dt.yr_end hc (2100 - y).toNat
   obtain rfl:Y=y:=HY.out.trans h2
   clear h2 HY
   have HL:=hid' (zjl Y (by omega) wr)
   have hlen:=hid' (fun i h=>Dt.len_in Y i h)
   generalize Dt.ahead Y=A at *
   generalize Dt.days Y=D at *
   generalize Dt.feb Y=f at *
   go_wp2_with (first|(refine HA.out.mono ?_; rintro e w' ⟨rfl,rfl⟩)|(refine HD.out.mono ?_; rintro e w' ⟨rfl,rfl⟩)|(refine HL.out.mono ?_; rintro e w1 ⟨rfl,hB⟩))
   have hcell:=hid' (Dt.lcells_at f)
   generalize Dt.lcells f=cs at *
   have HM:=hid' (show Dt.mfind ((Dt.lens f).drop 0) ((0:Nat):Int) (d - A)=Dt.mfind (Dt.lens f) 0 (d - A) from rfl)
   generalize Dt.mfind (Dt.lens f) 0 (d - A)=M at *
   go_loopw [0,38] (fun dv iv wz=>∃(x:Int) (i:Nat),dv=.int .i64 x∧iv=.int .i64 (i:Int)∧i≤12∧(-100000≤x∧x≤100000)∧Hid (Dt.mfind ((Dt.lens f).drop i) (i:Int) x=M)∧wz=w1) (fun _ iv _=>12 - (intOf iv).toNat)
   case atStart=>exact⟨d - A,0,rfl,rfl,by omega,by omega,HM,rfl⟩
   case round=>
    clear HM
    obtain⟨x,i,rfl,rfl,hi,hx,HM,rfl⟩:=hrel
    by_cases hlt:i<12
    ·have hlti:(i:Int)<12:=by omega
     have hl:=hlen.out i hlt
     have hidx:=fun w=>zjq w 177 3 12 cs _ Tryz.underlying177 Tryz.sizeOf3 Tryz.isAgg3 i hlt (hcell.out i hlt)
     by_cases hd2:x<((Dt.lens f)[i]?).getD 0
     ·have hm:=Dt.mfind_end (f:=f) hlt hd2
      have hm2:=hid' (hm.symm.trans HM.out)
      generalize ((Dt.lens f)[i]?).getD 0=k at *
      go_wp2_with fail
      refine bodyPost_ret (zcd rfl _ _ _) rfl ⟨?_,hB⟩
      rw[HP.out,←hm2.out]
      rfl
     ·have HM2:=hid' ((Dt.mfind_go (f:=f) hlt hd2).symm.trans HM.out)
      generalize ((Dt.lens f)[i]?).getD 0=k at *
      go_wp2_with fail
      go_roundw
      case rel=>exact⟨x - k,i+1,rfl,by go_num,by omega,by omega,HM2,trivial⟩
      case measure=>simp[intOf]; omega
    ·obtain rfl:i=12:=by omega
     have hm2:=hid' (HM.out.symm.trans Dt.mfind_out)
     go_wp2_with fail
     refine bodyPost_ret (zcd rfl _ _ _) rfl ⟨?_,hB⟩
     rw[HP.out,hm2.out]
     rfl
end
end Go.Proofs.YtanlmbbalamgkaaGreatDoor
