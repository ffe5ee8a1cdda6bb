/- Proved: lemmas and contracts of the functions that the law reaches, part 19 of 36: VmDate3. Conditions: as each states. -/
import Derived.Test.YtanlmbbalamgkaaGreatDoorVmi11
import Derived.Test.YtanlmbbalamgkaaGreatDoorVmi16
namespace Go.Proofs.YtanlmbbalamgkaaGreatDoor
set_option linter.unusedVariables false
set_option linter.unusedSimpArgs false
section
open Go.RowKit
set_option maxRecDepth 100000
namespace Dt
def sumTo (f:Int)(i:Nat):Int:=((lens f).take i).foldl (· + ·) 0
def ofD (y:Int)(i:Nat)(d:Int):Int:=if d<1∨((lens (feb y))[i]?).getD 0<d then 0 else ahead y+d - 1+sumTo (feb y) i
theorem sumTo_in (y:Int)(i:Nat)(h:i≤12):0≤sumTo (feb y) i∧sumTo (feb y) i≤366:=by
 have:=feb_in y
 rcases(by omega:i=0∨i=1∨i=2∨i=3∨i=4∨i=5∨i=6∨i=7∨i=8∨i=9∨i=10∨i=11∨i=12) with rfl|rfl|rfl|rfl|rfl|rfl|rfl|rfl|rfl|rfl|rfl|rfl|rfl<;>simp[sumTo,lens]<;>omega
theorem sumTo_succ (f:Int)(i:Nat)(h:i<12):sumTo f (i+1)=sumTo f i+((lens f)[i]?).getD 0:=by
 rcases(by omega:i=0∨i=1∨i=2∨i=3∨i=4∨i=5∨i=6∨i=7∨i=8∨i=9∨i=10∨i=11) with rfl|rfl|rfl|rfl|rfl|rfl|rfl|rfl|rfl|rfl|rfl|rfl<;>rfl
end Dt
theorem zso (b i:Nat)(h:i≤12)(w:World):(Instr.sliceAt 177 (.pointer (some ⟨b,0,none⟩)) none (some (.int .i64 (i:Int))) none).run Tryz.prog w=.ok (.slice (some ⟨b,0,none⟩) i 12) w:=by
 have hal:Tryz.prog.arrayLen 177=12:=by kernel_rfl
 rw[run_sliceAt_array_h (t:=177) (a:=⟨b,0,none⟩) (ht:=Tryz.underlying177) (kh:=.i64) (h:=(i:Int)) (h0:=by omega) (h2:=by rw[hal]; omega)]
 rw[hal,show Tryz.prog.elem 177=3 by kernel_rfl,Tryz.sizeOf3]
 simp[slicedAt]
 rfl
set_option maxHeartbeats 4000000 in
theorem qev (y d:Int)(i:Nat)(hy:1900≤y∧y≤2099)(hi:i<12)(hd : -200000≤d∧d≤200000)(w:World):
  Calls Tryz.prog 155 #[.int .i64 y,.int .i64 ((i:Int)+1),.int .i64 d] w fun e w'=>(∃ er,e=.returned (.tuple #[.int .i64 (Dt.ofD y i d),.int .i64 er]))∧Below w.heap.size w w':=by
 have HL:=hid' (zjl y (by omega) w)
 have hl:=Dt.len_in y i hi
 have HO:=hid' (show Dt.ofD y i d=if d<1∨((Dt.lens (Dt.feb y))[i]?).getD 0<d then 0 else Dt.ahead y+d - 1+Dt.sumTo (Dt.feb y) i from rfl)
 have HA:=fun W=>hid' (zrm y (by omega) W)
 have hA:=Dt.ahead_in hy.1 (by omega)
 have hS:=hid' (fun j h=>Dt.sumTo_in y j h)
 have hN:=hid' (fun j h=>Dt.len_in y j h)
 generalize Dt.ofD y i d=R at *
 generalize Dt.ahead y=A at *
 generalize Dt.feb y=f at *
 go_enter Tryz.func155,Tryz.ntmps155
 go_wp2_with (refine HL.out.mono ?_; rintro e w1 ⟨rfl,hB⟩)
 rw[zem w1 (Dt.lcells f) _ _ 12 rfl rfl (by simp[Dt.lcells,Value.oneCell'])]
 generalize hs:World.setRow _ _ _=ws
 have hb:=hid' (show Below w.heap.size w ws by rw[←hs]; exact Below.more hB (zez w1 _ _))
 have hcell:∀ j,j<12→ws.cell? ⟨w1.heap.size,j,none⟩=some (.int .i64 (((Dt.lens f)[j]?).getD 0)):=fun j hj=>by rw[←hs,zko]; exact Dt.lcells_at f j hj
 clear hs
 have hidx:(i:Int)+1 - 1=(i:Int):=by omega
 have hc0:=hcell i hi
 have hcell':=hid' hcell
 clear hcell hB
 have HA':=HA ws
 clear HA
 by_cases h1:d<1
 ·have HO2:=HO.out
  rw[if_pos (.inl h1)] at HO2
  have HO3:=hid' HO2
  clear HO HO2
  go_wp2_with fail
  go_ret2
  exact⟨⟨30,by rw[HO3.out]; rfl⟩,hb.out⟩
 ·by_cases h2:((Dt.lens f)[i]?).getD 0<d
  ·have HO2:=HO.out
   rw[if_pos (.inr h2)] at HO2
   have HO3:=hid' HO2
   clear HO HO2
   generalize ((Dt.lens f)[i]?).getD 0=k at *
   go_wp2_with fail
   go_ret2
   exact⟨⟨30,by rw[HO3.out]; rfl⟩,hb.out⟩
  ·have HO2:=HO.out
   rw[if_neg (fun h=>h.elim h1 h2)] at HO2
   have HO3:=hid' HO2
   clear HO HO2
   have s0:=hid' (show Dt.sumTo f 0=0 from rfl)
   obtain⟨k,hk⟩:∃ k,((Dt.lens f)[i]?).getD 0=k:=⟨_,rfl⟩
   rw[hk] at hc0 hl h2
   have hsl:=fun w=>zso w1.heap.size i (by omega) w
   go_wp2_with (refine HA'.out.mono ?_; rintro e w' ⟨rfl,rfl⟩)
   have HT:=hid' (show A+d - 1+Dt.sumTo f 0=A+d - 1 by rw[s0.out]; omega)
   go_loopw [9,47] (fun nv iv wz=>∃(n:Int) (j:Nat),nv=.int .i64 n∧iv=.int .i64 (j:Int)∧j≤i∧Hid (n=A+d - 1+Dt.sumTo f j)∧wz=w') (fun _ iv _=>i - (intOf iv).toNat)
   case atStart=>exact⟨A+d - 1,0,rfl,rfl,by omega,hid' HT.out.symm,rfl⟩
   case round=>
    obtain⟨n,j,rfl,rfl,hj,HN,rfl⟩:=hrel
    have hn:=hS.out j (by omega)
    have hn2 : -400000≤n∧n≤400000:=by have:=HN.out; omega
    by_cases hlt:j<i
    ·have hlti:(j:Int)<(i:Int):=by omega
     have hc:=hcell'.out j (by omega)
     have hl2:=hN.out j (by omega)
     have HN2:=hid' (show n+((Dt.lens f)[j]?).getD 0=A+d - 1+Dt.sumTo f (j+1) by rw[Dt.sumTo_succ f j (by omega),HN.out]; omega)
     generalize ((Dt.lens f)[j]?).getD 0=q at *
     go_wp2_with fail
     go_roundw
     case rel=>exact⟨n+q,j+1,rfl,by go_num,by omega,HN2,trivial⟩
     case measure=>simp[intOf]; omega
    ·obtain rfl:j=i:=by omega
     have hR:=hid' (HO3.out.trans HN.out.symm)
     go_wp2_with fail
     go_ret2
     exact⟨⟨0,by rw[hR.out]; rfl⟩,hb.out⟩
namespace Dt
def kOf (d n:Int):Int:=12 * (parts (clamp d)).1+(parts (clamp d)).2.1 - 1+max (-25188) (min 25188 n)
def months (d n:Int):Int:=if kOf d n<22800 then 0 else if 25200≤kOf d n then 73048 else
 ofD (kOf d n / 12) (kOf d n % 12).toNat (min (parts (clamp d)).2.2.1 (((lens (feb (kOf d n / 12)))[(kOf d n % 12).toNat]?).getD 0))
def ratio (n d:Int):Int:=Num.div (n * 1000000) (d * 1000000)
def years (a b:Int):Int:=ratio (clamp b - clamp a) 365
def years30 (a b:Int):Int:=ratio (360 * ((parts (clamp b)).1 - (parts (clamp a)).1)+30 * ((parts (clamp b)).2.1 - (parts (clamp a)).2.1)+min (parts (clamp b)).2.2.1 30 - min (parts (clamp a)).2.2.1 30) 360
theorem zsx:∀(l:List Int) (i d:Int),(∀ k∈l,0≤k∧k≤31) → -100000≤d→d≤100000→0≤i→(0≤(mfind l i d).1∧(mfind l i d).1≤i+l.length) ∧ -100000≤(mfind l i d).2.1∧(mfind l i d).2.1≤100031
 | [],i,d,_,_,_,_=>by simp[mfind]; omega
 |k::t,i,d,h,h1,h2,h3=>by
  have hk:=h k (by simp)
  rw[mfind]
  split
  ·simp only[List.length_cons]; omega
  ·have:=zsx t (i+1) (d - k) (fun x hx=>h x (by simp[hx])) (by omega) (by omega) (by omega)
   simp only[List.length_cons]; omega
theorem qdz (d:Int):∀(k:Nat) (y:Int),1900≤y→y+k≤2100→1900≤yr k d y∧yr k d y≤2100
 |0,y,h,h2=>by rw[yr]; omega
 |k+1,y,h,h2=>by
  rw[yr]
  split
  ·exact qdz d k (y+1) (by omega) (by omega)
  ·omega
theorem parts_in (d:Int)(h:0≤d)(h2:d≤73048):(0≤(parts d).1∧(parts d).1≤2100)∧(0≤(parts d).2.1∧(parts d).2.1≤12) ∧ -100000≤(parts d).2.2.1∧(parts d).2.2.1≤100031:=by
 have hy:1900≤yearOf d∧yearOf d≤2100:=qdz d _ _ (by omega) (by omega)
 have ha:=ahead_in hy.1 hy.2
 have hm:=zsx (lens (feb (yearOf d))) 0 (d - ahead (yearOf d)) (by
  have:=feb_in (yearOf d)
  intro k hk
  simp only[lens,List.mem_cons,List.not_mem_nil,or_false] at hk
  omega) (by omega) (by omega) (by omega)
 simp only[show(lens (feb (yearOf d))).length=12 from rfl] at hm
 unfold parts
 simp only
 split
 ·simp only; omega
 ·simp only; omega
end Dt
theorem Dt.ratio_eq (n d:Int):Dt.ratio n d=Num.div (n * 1000000) (d * 1000000):=rfl
theorem Dt.years_eq (a b:Int):Dt.years a b=Dt.ratio (Dt.clamp b - Dt.clamp a) 365:=rfl
theorem Dt.years30_eq {a b y m d e1 z n e e2:Int}(h:Dt.parts (Dt.clamp a)=(y,m,d,e1))(h2:Dt.parts (Dt.clamp b)=(z,n,e,e2)):Dt.years30 a b=Dt.ratio (360 * (z - y)+30 * (n - m)+min e 30 - min d 30) 360:=by
 rw[Dt.years30,h,h2]
theorem Dt.months_eq {a x y m d e1:Int}(h:Dt.parts (Dt.clamp a)=(y,m,d,e1)):Dt.kOf a x=12 * y+m - 1+max (-25188) (min 25188 x)∧(22800≤Dt.kOf a x→Dt.kOf a x<25200→Dt.months a x=Dt.ofD (Dt.kOf a x / 12) (Dt.kOf a x % 12).toNat (min d (((Dt.lens (Dt.feb (Dt.kOf a x / 12)))[(Dt.kOf a x % 12).toNat]?).getD 0))):=by
 refine⟨by rw[Dt.kOf,h],fun h1 h2=>?_⟩
 rw[Dt.months,if_neg (by omega),if_neg (by omega),h]
theorem zqu (n d:Int)(hn : -1000000000≤n∧n≤1000000000)(hd : -1000000000≤d∧d≤1000000000)(w:World):Calls Tryz.prog 157 #[.int .i64 n,.int .i64 d] w (zaj (.int .i64 (Dt.ratio n d)) w):=by
 have HC:=hid' (zqd (n * 1000000) (d * 1000000) w)
 have HR:=hid' (Dt.ratio_eq n d)
 generalize Num.div (n * 1000000) (d * 1000000)=q at *
 go_enter Tryz.func157,Tryz.ntmps157
 go_wp2_with (refine HC.out.mono ?_; rintro e w1 ⟨rfl,nd,rfl⟩)
 go_ret
 exact⟨by rw[HR.out]; rfl,Below.drewn (Below.refl _ _) nd⟩
theorem zql (a b:Int)(w:World):Calls Tryz.prog 125 #[.int .i64 a,.int .i64 b] w (zaj (.int .i64 (Dt.years a b)) w):=by
 have HA:=hid' (zda a w)
 have HB:=hid' (zda b w)
 have a1:=Dt.clamp_ge a
 have a2:=Dt.clamp_le a
 have b1:=Dt.clamp_ge b
 have b2:=Dt.clamp_le b
 have HC:=hid' (zqu (Dt.clamp b - Dt.clamp a) 365 (by omega) (by omega) w)
 have HR:=hid' (Dt.years_eq a b)
 generalize Dt.ratio (Dt.clamp b - Dt.clamp a) 365=q at *
 generalize Dt.clamp a=x at *
 generalize Dt.clamp b=y at *
 go_enter Tryz.func125,Tryz.ntmps125
 go_wp2_with (first|(refine HB.out.mono ?_; rintro e w1 ⟨rfl,rfl⟩)|(refine HA.out.mono ?_; rintro e w1 ⟨rfl,rfl⟩)|(refine HC.out.mono ?_; rintro e w1 ⟨rfl,hb⟩))
 go_ret
 exact⟨by rw[HR.out]; rfl,hb⟩
set_option maxHeartbeats 4000000 in
theorem zne (a b:Int)(w:World):Calls Tryz.prog 126 #[.int .i64 a,.int .i64 b] w (zaj (.int .i64 (Dt.years30 a b)) w):=by
 have HA:=hid' (zda a w)
 have HB:=fun w=>hid' (zda b w)
 have hp:=Dt.parts_in (Dt.clamp a) (Dt.clamp_ge a) (Dt.clamp_le a)
 have hq:=Dt.parts_in (Dt.clamp b) (Dt.clamp_ge b) (Dt.clamp_le b)
 have HP:=hid' (zlw (Dt.clamp a) ⟨Dt.clamp_ge a,Dt.clamp_le a⟩ w)
 have HQ:=fun w=>hid' (zlw (Dt.clamp b) ⟨Dt.clamp_ge b,Dt.clamp_le b⟩ w)
 obtain⟨⟨y,m,d,e1⟩,g1⟩:∃ p,Dt.parts (Dt.clamp a)=p:=⟨_,rfl⟩
 obtain⟨⟨z,n,e,e2⟩,g2⟩:∃ p,Dt.parts (Dt.clamp b)=p:=⟨_,rfl⟩
 have HR:=hid' (Dt.years30_eq g1 g2)
 rw[g1] at hp HP
 rw[g2] at hq HQ
 clear g1 g2
 simp only at hp hq HP HQ
 have hmin1:min e 30≤30∧(min e 30=e∨min e 30=30) ∧ -100000≤min e 30:=by omega
 have hmin2:min d 30≤30∧(min d 30=d∨min d 30=30) ∧ -100000≤min d 30:=by omega
 have HC:=fun w=>hid' (zqu (360 * (z - y)+30 * (n - m)+min e 30 - min d 30) 360 (by omega) (by omega) w)
 have HP2:=hid' hp
 have HQ2:=hid' hq
 clear hmin1 hmin2 hp hq
 generalize Dt.ratio (360 * (z - y)+30 * (n - m)+min e 30 - min d 30) 360=q at *
 generalize Dt.clamp a=ca at *
 generalize Dt.clamp b=cb at *
 generalize Dt.years30 a b=R at *
 go_enter Tryz.func126,Tryz.ntmps126
 go_upto_region 2 with(first|(go_at_call 113; refine HA.out.mono ?_; rintro e w1 ⟨rfl,rfl⟩)|(go_at_call 154; refine HP.out.mono ?_; rintro e w1 ⟨rfl,hb1⟩))
 have HB1:=hid' (HB w1).out
 have HQ1:=hid' (HQ w1).out
 have hb1':=hid' hb1
 clear HB HQ HA HP hb1
 go_upto_region 3 with(first|(go_at_call 113; refine HB1.out.mono ?_; rintro e w2 ⟨rfl,rfl⟩)|(go_at_call 154; refine HQ1.out.mono ?_; rintro e w2 ⟨rfl,hb2⟩))
 have hp:=HP2.out
 have hq:=HQ2.out
 have w1:IntKind.i64.wrap (z - y)=z - y:=IntWalk.i64_in _ (by omega)
 have w2:IntKind.i64.wrap (360 * (z - y))=360 * (z - y):=IntWalk.i64_in _ (by omega)
 have w3:IntKind.i64.wrap (n - m)=n - m:=IntWalk.i64_in _ (by omega)
 have w4:IntKind.i64.wrap (30 * (n - m))=30 * (n - m):=IntWalk.i64_in _ (by omega)
 have w5:IntKind.i64.wrap (360 * (z - y)+30 * (n - m))=360 * (z - y)+30 * (n - m):=IntWalk.i64_in _ (by omega)
 have hB:=hid' (Below.more hb1'.out hb2)
 clear hb2 hb1' HP2 HQ2
 have w6:IntKind.i64.wrap (360 * (z - y)+30 * (n - m)+min e 30)=360 * (z - y)+30 * (n - m)+min e 30:=IntWalk.i64_in _ (by omega)
 have w7:IntKind.i64.wrap (360 * (z - y)+30 * (n - m)+min e 30 - min d 30)=360 * (z - y)+30 * (n - m)+min e 30 - min d 30:=IntWalk.i64_in _ (by omega)
 clear hp hq
 go_wp2_with (first|(go_at_call 157; refine(HC _).out.mono ?_; rintro e w3 ⟨rfl,hb3⟩))
 go_ret
 exact⟨by rw[HR.out]; rfl,Below.more hB.out hb3⟩
set_option maxHeartbeats 4000000 in
theorem zou (a x:Int)(w:World):Calls Tryz.prog 124 #[.int .i64 a,.int .i64 x] w (zaj (.int .i64 (Dt.months a x)) w):=by
 have HA:=hid' (zda a w)
 have hp:=Dt.parts_in (Dt.clamp a) (Dt.clamp_ge a) (Dt.clamp_le a)
 have HP:=hid' (zlw (Dt.clamp a) ⟨Dt.clamp_ge a,Dt.clamp_le a⟩ w)
 obtain⟨⟨y,m,d,e1⟩,g1⟩:∃ p,Dt.parts (Dt.clamp a)=p:=⟨_,rfl⟩
 obtain⟨HK,HM⟩:=Dt.months_eq (x:=x) g1
 have HLO:Dt.kOf a x<22800→Dt.months a x=0:=fun h=>by rw[Dt.months,if_pos h]
 have HHI:25200≤Dt.kOf a x→Dt.months a x=73048:=fun h=>by rw[Dt.months,if_neg (by omega),if_pos h]
 rw[g1] at hp HP
 clear g1
 simp only at hp HP
 have hk:Hid (Dt.kOf a x=12 * y+m - 1+max (-25188) (min 25188 x)):=HK
 have hmm : -25188≤max (-25188) (min 25188 x)∧max (-25188) (min 25188 x)≤25188:=by omega
 have v1:IntKind.i64.wrap (12 * y)=12 * y:=IntWalk.i64_in _ (by omega)
 have v2:IntKind.i64.wrap (12 * y+m)=12 * y+m:=IntWalk.i64_in _ (by omega)
 have v3:IntKind.i64.wrap (12 * y+m - 1)=12 * y+m - 1:=IntWalk.i64_in _ (by omega)
 have v4:IntKind.i64.wrap (12 * y+m - 1+max (-25188) (min 25188 x))=12 * y+m - 1+max (-25188) (min 25188 x):=IntWalk.i64_in _ (by omega)
 have hd : -100000≤d∧d≤100031:=hp.2.2
 have HD:=hid' hd
 clear HK hp hmm hd
 generalize Dt.clamp a=ca at *
 generalize Dt.kOf a x=k at *
 have HLO':=hid' HLO
 have HHI':=hid' HHI
 have HM':=hid' HM
 clear HLO HHI HM
 generalize Dt.months a x=R at *
 go_enter Tryz.func124,Tryz.ntmps124
 go_upto_region 2 with(first|(go_at_call 113; refine HA.out.mono ?_; rintro e w2 ⟨rfl,rfl⟩)|(go_at_call 154; refine HP.out.mono ?_; rintro e w2 ⟨rfl,hb1⟩))
 have hB:=hid' hb1
 clear HA HP hb1
 go_upto_region 3 with(fail)
 clear v1 v2 v3 v4
 rw[←hk.out]
 clear hk
 by_cases h1:k<22800
 ·have e:=hid' (HLO'.out h1)
  clear HLO' HHI' HM'
  go_wp2_with fail
  go_ret
  exact⟨by rw[e.out]; rfl,hB.out⟩
 ·by_cases h2:25200≤k
  ·have e:=hid' (HHI'.out h2)
   clear HLO' HHI' HM'
   go_wp2_with fail
   go_ret
   exact⟨by rw[e.out]; rfl,hB.out⟩
  ·have e:=hid' (HM'.out (by omega) (by omega))
   clear HLO' HHI' HM'
   have t1:k.tdiv 12=k / 12:=Int.tdiv_eq_ediv_of_nonneg (by omega)
   have t2:k.tmod 12=k % 12:=Int.tmod_eq_emod_of_nonneg (by omega)
   obtain⟨q,hq⟩:∃ q,q=k / 12:=⟨_,rfl⟩
   obtain⟨r,hr⟩:∃ r:Nat,(r:Int)=k % 12:=⟨(k % 12).toNat,by omega⟩
   have hr2:(k % 12).toNat=r:=by omega
   have hq3:1900≤q∧q≤2099:=by omega
   have hr3:r<12:=by omega
   have e':=e.out
   rw[←hq,hr2] at e'
   have E:=hid' e'
   clear e e'
   rw[←hq] at t1
   rw[←hr] at t2
   have hx:IntKind.i64.wrap ((r:Int)+1)=(r:Int)+1:=IntWalk.i64_in _ (by omega)
   have hl:=Dt.len_in q r hr3
   have hc:=hid' (Dt.lcells_at (Dt.feb q) r hr3)
   have HD2:=HD.out
   have hdd : -200000≤min d (((Dt.lens (Dt.feb q))[r]?).getD 0)∧min d (((Dt.lens (Dt.feb q))[r]?).getD 0)≤200000:=by omega
   have HL:=hid' (fun W=>zjl q (by omega) W)
   have HO:=hid' (fun W=>qev q (min d (((Dt.lens (Dt.feb q))[r]?).getD 0)) r hq3 hr3 hdd W)
   clear hl hdd HD2 hr hr2 hq
   generalize ((Dt.lens (Dt.feb q))[r]?).getD 0=l at *
   generalize Dt.ofD q r (min d l)=o at *
   generalize Dt.lcells (Dt.feb q)=cs at *
   have hix:=fun W=>zjq W 177 3 12 cs _ Tryz.underlying177 Tryz.sizeOf3 Tryz.isAgg3 r hr3 hc.out
   go_wp2_with (first|(go_at_call 156; refine(HL.out _).mono ?_; rintro e w3 ⟨rfl,hb3⟩)|(go_at_call 155; refine(HO.out _).mono ?_; rintro e w4 ⟨⟨er,rfl⟩,hb4⟩))
   go_ret
   exact⟨by rw[E.out]; rfl,Below.more (Below.more hB.out hb3) hb4⟩
end
end Go.Proofs.YtanlmbbalamgkaaGreatDoor
