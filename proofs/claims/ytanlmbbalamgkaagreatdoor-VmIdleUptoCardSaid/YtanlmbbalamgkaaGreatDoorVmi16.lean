/- Proved: lemmas and contracts of the functions that the law reaches, part 16 of 36: NumDiv, NumMul. Conditions: as each states. -/
import Derived.Deep.DeepCutAuto
import Derived.Deep.CutBlock
import Derived.Test.YtanlmbbalamgkaaGreatDoorVmi4
import Derived.Test.YtanlmbbalamgkaaGreatDoorVmi13
namespace Go.Proofs.YtanlmbbalamgkaaGreatDoor
set_option linter.unusedVariables false
set_option linter.unusedSimpArgs false
section
open Go.RowKit
open Num
set_option maxRecDepth 100000 in
set_option maxHeartbeats 1000000 in
theorem qdk (hi lo y:Nat)(hy:hi<y)(hy2:y<18446744073709551616)(hlo:lo<18446744073709551616)(h1:1≤hi)(w:World):
  Calls Tryz.prog 153 #[.int .u64 (hi:Int),.int .u64 (lo:Int),.int .u64 (y:Int)] w
   (Drew (.tuple #[.int .u64 (((hi * 18446744073709551616+lo) / y:Nat):Int),.int .u64 (((hi * 18446744073709551616+lo) % y:Nat):Int)]) w):=by
 obtain⟨Qo,HQ⟩:∃ Qo,Hid (Qo=(hi * 18446744073709551616+lo) / y):=⟨_,rfl⟩
 obtain⟨Ro,HR⟩:∃ Ro,Hid (Ro=(hi * 18446744073709551616+lo) % y):=⟨_,rfl⟩
 rw[←HQ.out,←HR.out]
 have S:=Knuth.shifted hi lo y hy hy2 hlo
 have E1:IntKind.u64.wrap (64 - ((Lib.bitLen y:Nat):Int))=((64 - Lib.bitLen y:Nat):Int):=by
  have:=Lib.bitLen_le y 64 (by omega) (by omega)
  rw[IntKind.wrap_u64]; omega
 have y0:((y:Int) == 0)=false:=by rw[beq_eq_false_iff_ne]; omega
 have y1:decide ((y:Int)≤(hi:Int))=false:=by simp; omega
 have y3:decide (y≤hi)=false:=by simp; omega
 have y2:((hi:Int) == 0)=false:=by rw[beq_eq_false_iff_ne]; omega
 go_enter Tryz.func153,Tryz.ntmps153
 go_wp2_with fail
 refine(Tryz.bits_LeadingZeros64 _ _ (by omega) (by omega)).mono ?_
 rintro e w1 ⟨rfl,rfl⟩
 simp only[Int.toNat_natCast]
 generalize 64 - Lib.bitLen y=s at *
 obtain⟨s1,s2,s3,s4,s5,s6,s7⟩:=S
 have m1:min s 64=s:=by omega
 have m2:min (64 - s) 64=64 - s:=by omega
 have E2:=Knuth.shl_fits y s s3
 have E3:=Knuth.shl_fits hi s s4
 have E4:IntKind.u64.wrap (64 - (s:Int))=((64 - s:Nat):Int):=by rw[IntKind.wrap_u64]; omega
 have E5:=Knuth.or_sum hi (lo / 2 ^ (64 - s)) s (by omega) s4 s5
 have E6:=Knuth.shl_mod lo s
 have E7:=Knuth.shr lo (64 - s)
 generalize hYs:y * 2 ^ s=Y at *
 have HYs:=hid' hYs
 clear hYs
 generalize hi * 2 ^ s=H at *
 generalize lo / 2 ^ (64 - s)=L at *
 have s8:lo * 2 ^ s % 18446744073709551616<18446744073709551616:=Nat.mod_lt _ (by omega)
 generalize lo * 2 ^ s % 18446744073709551616=N at *
 have E8:=Knuth.and_mask Y s3
 have E9:=Knuth.and_mask N (by omega)
 rw[show((H+L:Nat):Int)=((H+L:Nat):Int) from rfl] at E5
 generalize H+L=U at *
 obtain⟨h,l,hY,hl⟩:∃ h l,Y=h * 4294967296+l∧l<4294967296:=⟨Y / 4294967296,Y % 4294967296,by omega,by omega⟩
 obtain⟨n1,n0,hN,hn0⟩:∃ h l,N=h * 4294967296+l∧l<4294967296:=⟨N / 4294967296,N % 4294967296,by omega,by omega⟩
 have F1:(Y:Int) / 4294967296=(h:Int):=by omega
 have F2:(N:Int) / 4294967296=(n1:Int):=by omega
 rw[show Y % 4294967296=l by omega] at E8
 rw[show N % 4294967296=n0 by omega] at E9
 have hh:1≤h:=by omega
 have hn1:n1<4294967296:=by omega
 have hU:U<h * 4294967296+l:=by omega
 have b1:(U:Int)≤18446744073709551615:=by omega
 have b2:(h:Int)≤4294967295:=by omega
 have K0:=Knuth.At.start 4294967296 h l U n1 hU hn1 hl hh
 obtain⟨T1,HT1⟩:∃ T1,Hid (T1=(U * 4294967296+n1) / (h * 4294967296+l)):=⟨_,rfl⟩
 rw[←HT1.out] at K0
 have F3:(U:Int) / (h:Int)=((U / h:Nat):Int):=by rw[Int.natCast_ediv]
 have F4:IntKind.u64.wrap ((U:Int) - IntKind.u64.wrap (((U / h:Nat):Int) * (h:Int)))=((U % h:Nat):Int):=by
  have e:=Nat.div_add_mod U h
  have e2:((U / h:Nat):Int) * (h:Int)=((h * (U / h):Nat):Int):=by rw[Int.natCast_mul,Int.mul_comm]
  rw[e2,IntKind.wrap_u64,IntKind.wrap_u64]
  generalize h * (U / h)=p at *
  omega
 have hr0:U % h<4294967296:=by have:=Nat.mod_lt U hh; omega
 have hq0:U / h≤U:=Nat.div_le_self _ _
 generalize U / h=q0 at *
 generalize U % h=r0 at *
 have HY:=hid' hY
 have HN:=hid' hN
 have HS:=hid' s6
 have KK0:=hid' K0
 clear hY hN s6 K0 s7
 go_upto_block 0 with(fail)
 go_cut [15,16] (fun vq vr wx=>vq=.int .u64 (T1:Int)∧(∃ r:Nat,vr=.int .u64 r)∧wx=w1)
 case first=>
  go_wp2_with fail
  go_loop [15,16] (fun vq vr=>∃ q r:Nat,vq=.int .u64 q∧vr=.int .u64 r∧q≤U∧r<4294967296∧Hid (Knuth.At h U T1 q r)) (fun vq _=>(intOf vq).toNat)
  case atStart=>exact⟨q0,r0,rfl,rfl,hq0,hr0,KK0⟩
  case round=>
   obtain⟨q,r,rfl,rfl,hqU,hr,K⟩:=hrel
   clear E1 E2 E3 E4 E5 E6 E7 E8 E9 F1 F2 F3 F4 KK0 HS HN HY s4 s5 s8 hq0 hr0 y0 y1 y2 hy hy2 hlo
   have P1:IntKind.u64.wrap ((q:Int) * (l:Int))=((q * l % 18446744073709551616:Nat):Int):=by
    rw[IntKind.wrap_u64,←Int.natCast_mul]; omega
   have P2:q<4294967296→q * l % 18446744073709551616=q * l:=fun hq=>by
    have h1:q * l≤4294967296 * l:=Nat.mul_le_mul_right _ (by omega)
    rw[Nat.mod_eq_of_lt]; omega
   have P3:q * l % 18446744073709551616<18446744073709551616:=Nat.mod_lt _ (by omega)
   generalize hP:q * l=P at *
   generalize P % 18446744073709551616=M at *
   have HP:=hid' hP
   have HP2:=hid' P2
   clear hP P2
   by_cases c0:4294967296≤q∨4294967296 * r+n1<P
   ·obtain⟨q1,K1⟩:=Knuth.At.down (by rw[←HT1.out]; exact K.out) hU hn1 (by rw[HP.out]; exact c0)
    have E:=hid' (show((q - 1:Nat):Int)=(q:Int) - 1 by omega)
    by_cases c2:(4294967296:Int)≤(r:Int)+(h:Int)
    ·have T:=hid' ((K1.stop2 hU hl (by omega)).trans HT1.out.symm)
     by_cases c1:(4294967296:Int)≤(q:Int)
     ·clear K1 c0 K HT1 hU hl s2 s3
      go_wp2_with fail
      go_meet
      exact⟨by rw[←T.out,E.out],⟨r+h,by go_num⟩,rfl⟩
     ·obtain rfl:M=P:=HP2.out (by omega)
      have c3:(4294967296:Int) * (r:Int)+(n1:Int)<(M:Int):=by omega
      clear K1 c0 K HT1 hU hl s2 s3
      go_wp2_with fail
      go_meet
      exact⟨by rw[←T.out,E.out],⟨r+h,by go_num⟩,rfl⟩
    ·rw[←HT1.out] at K1
     have K2:=hid' K1
     by_cases c1:(4294967296:Int)≤(q:Int)
     ·clear K1 c0 K HT1 hU hl s2 s3
      go_wp2_with fail
      go_round
      case rel=>exact⟨q - 1,r+h,by rw[E.out],by go_num,by omega,by omega,K2⟩
      case measure=>simp[intOf]; omega
     ·obtain rfl:M=P:=HP2.out (by omega)
      have c3:(4294967296:Int) * (r:Int)+(n1:Int)<(M:Int):=by omega
      clear K1 c0 K HT1 hU hl s2 s3
      go_wp2_with fail
      go_round
      case rel=>exact⟨q - 1,r+h,by rw[E.out],by go_num,by omega,by omega,K2⟩
      case measure=>simp[intOf]; omega
   ·obtain rfl:M=P:=HP2.out (by omega)
    have T:=hid' ((Knuth.At.stop (by rw[←HT1.out]; exact K.out) hU (by rw[HP.out]; omega)).trans HT1.out.symm)
    have c1:¬(4294967296:Int)≤(q:Int):=by omega
    have c3:¬(4294967296:Int) * (r:Int)+(n1:Int)<(M:Int):=by omega
    clear c0 K HT1 hU hl s2 s3
    go_wp2_with fail
    go_meet
    exact⟨by rw[←T.out],⟨r,rfl⟩,rfl⟩
 case rest=>
  obtain⟨rfl,⟨rr,rfl⟩,rfl⟩:=hcut
  have G1:=Knuth.rest_wrap U n1 T1 Y s3 (by rw[HY.out]; exact HT1.out) (by omega)
  have G2:IntKind.u64.wrap (IntKind.u64.wrap (IntKind.u64.wrap ((U:Int) * 4294967296)+(n1:Int)) - IntKind.u64.wrap ((T1:Int) * (Y:Int)))=(((U * 4294967296+n1) % Y:Nat):Int):=by
   rw[←G1,IntKind.wrap_u64,IntKind.wrap_u64,IntKind.wrap_u64,IntKind.wrap_u64]
   generalize (T1:Int) * (Y:Int)=p
   omega
  have b3:(U * 4294967296+n1) % Y<Y:=Nat.mod_lt _ (by omega)
  obtain⟨V,HV⟩:∃ V,Hid (V=(U * 4294967296+n1) % Y):=⟨_,rfl⟩
  rw[←HV.out] at G2 b3
  clear G1 hU F3 F4 E2 E3 E4 E5 E6 E7 E8 E9 F1 F2
  rw[HY.out] at b3
  have hV:V<h * 4294967296+l:=b3
  have b4:(V:Int)≤18446744073709551615:=by have:=HY.out; omega
  have K2:=Knuth.At.start 4294967296 h l V n0 hV hn0 hl hh
  obtain⟨T2,HT2⟩:∃ T2,Hid (T2=(V * 4294967296+n0) / (h * 4294967296+l)):=⟨_,rfl⟩
  rw[←HT2.out] at K2
  have F3:(V:Int) / (h:Int)=((V / h:Nat):Int):=by rw[Int.natCast_ediv]
  have F4:IntKind.u64.wrap ((V:Int) - IntKind.u64.wrap (((V / h:Nat):Int) * (h:Int)))=((V % h:Nat):Int):=by
   have e:=Nat.div_add_mod V h
   have e2:((V / h:Nat):Int) * (h:Int)=((h * (V / h):Nat):Int):=by rw[Int.natCast_mul,Int.mul_comm]
   rw[e2,IntKind.wrap_u64,IntKind.wrap_u64]
   generalize h * (V / h)=p at *
   omega
  have hr2:V % h<4294967296:=by have:=Nat.mod_lt V hh; omega
  have hq2:V / h≤V:=Nat.div_le_self _ _
  generalize V / h=q2 at *
  generalize V % h=r2 at *
  have KK2:=hid' K2
  clear K2 b3
  go_upto_block 2 with(fail)
  go_cut [18,16] (fun vq vr wx=>vq=.int .u64 (T2:Int)∧(∃ r:Nat,vr=.int .u64 r)∧wx=wc)
  case first=>
   go_wp2_with fail
   go_loop [18,16] (fun vq vr=>∃ q r:Nat,vq=.int .u64 q∧vr=.int .u64 r∧q≤V∧r<4294967296∧Hid (Knuth.At h V T2 q r)) (fun vq _=>(intOf vq).toNat)
   case atStart=>exact⟨q2,r2,rfl,rfl,hq2,hr2,KK2⟩
   case round=>
    obtain⟨q,r,rfl,rfl,hqV,hr,K⟩:=hrel
    clear E1 F3 F4 KK2 KK0 HS HN HY s4 s5 s8 hq2 hr2 hr0 hq0 y0 y1 y2 hy hy2 hlo HT1 HV
    have P1:IntKind.u64.wrap ((q:Int) * (l:Int))=((q * l % 18446744073709551616:Nat):Int):=by
     rw[IntKind.wrap_u64,←Int.natCast_mul]; omega
    have P2:q<4294967296→q * l % 18446744073709551616=q * l:=fun hq=>by
     have h1:q * l≤4294967296 * l:=Nat.mul_le_mul_right _ (by omega)
     rw[Nat.mod_eq_of_lt]; omega
    have P3:q * l % 18446744073709551616<18446744073709551616:=Nat.mod_lt _ (by omega)
    generalize hP:q * l=P at *
    generalize P % 18446744073709551616=M at *
    have HP:=hid' hP
    have HP2:=hid' P2
    clear hP P2
    by_cases c0:4294967296≤q∨4294967296 * r+n0<P
    ·obtain⟨q1,K1⟩:=Knuth.At.down (by rw[←HT2.out]; exact K.out) hV hn0 (by rw[HP.out]; exact c0)
     have E:=hid' (show((q - 1:Nat):Int)=(q:Int) - 1 by omega)
     by_cases c2:(4294967296:Int)≤(r:Int)+(h:Int)
     ·have T:=hid' ((K1.stop2 hV hl (by omega)).trans HT2.out.symm)
      by_cases c1:(4294967296:Int)≤(q:Int)
      ·clear K1 c0 K HT2 hV hl s2 s3
       go_wp2_with fail
       go_meet
       exact⟨by rw[←T.out,E.out],⟨r+h,by go_num⟩,rfl⟩
      ·obtain rfl:M=P:=HP2.out (by omega)
       have c3:(4294967296:Int) * (r:Int)+(n0:Int)<(M:Int):=by omega
       clear K1 c0 K HT2 hV hl s2 s3
       go_wp2_with fail
       go_meet
       exact⟨by rw[←T.out,E.out],⟨r+h,by go_num⟩,rfl⟩
     ·rw[←HT2.out] at K1
      have K2:=hid' K1
      by_cases c1:(4294967296:Int)≤(q:Int)
      ·clear K1 c0 K HT2 hV hl s2 s3
       go_wp2_with fail
       go_round
       case rel=>exact⟨q - 1,r+h,by rw[E.out],by go_num,by omega,by omega,K2⟩
       case measure=>simp[intOf]; omega
      ·obtain rfl:M=P:=HP2.out (by omega)
       have c3:(4294967296:Int) * (r:Int)+(n0:Int)<(M:Int):=by omega
       clear K1 c0 K HT2 hV hl s2 s3
       go_wp2_with fail
       go_round
       case rel=>exact⟨q - 1,r+h,by rw[E.out],by go_num,by omega,by omega,K2⟩
       case measure=>simp[intOf]; omega
    ·obtain rfl:M=P:=HP2.out (by omega)
     have T:=hid' ((Knuth.At.stop (by rw[←HT2.out]; exact K.out) hV (by rw[HP.out]; omega)).trans HT2.out.symm)
     have c1:¬(4294967296:Int)≤(q:Int):=by omega
     have c3:¬(4294967296:Int) * (r:Int)+(n0:Int)<(M:Int):=by omega
     clear c0 K HT2 hV hl s2 s3
     go_wp2_with fail
     go_meet
     exact⟨by rw[←T.out],⟨r,rfl⟩,rfl⟩
  case rest=>
   obtain⟨rfl,⟨rr2,rfl⟩,rfl⟩:=hcut
   have G3:=Knuth.rest_wrap V n0 T2 Y s3 (by rw[HY.out]; exact HT2.out) (by omega)
   have G4:IntKind.u64.wrap (IntKind.u64.wrap (IntKind.u64.wrap ((V:Int) * 4294967296)+(n0:Int)) - IntKind.u64.wrap ((T2:Int) * (Y:Int)))=(((V * 4294967296+n0) % Y:Nat):Int):=by
    rw[←G3,IntKind.wrap_u64,IntKind.wrap_u64,IntKind.wrap_u64,IntKind.wrap_u64]
    generalize (T2:Int) * (Y:Int)=p
    omega
   have hY0:0<Y:=by omega
   have J:=Knuth.two_digits 4294967296 Y ((hi * 18446744073709551616+lo) * 2 ^ s) U n1 n0 hY0 (by rw[←HS.out,HN.out]; omega)
   have p0:0<2 ^ s:=Nat.two_pow_pos s
   rw[←HV.out,←HYs.out,Nat.mul_div_mul_right _ _ p0,Nat.mul_mod_mul_right,HYs.out,HY.out,←HT1.out,←HT2.out,←HY.out] at J
   obtain⟨R,hR⟩:∃ R,Hid (R=(V * 4294967296+n0) % Y):=⟨_,rfl⟩
   rw[←hR.out] at J G4
   have J2:R / 2 ^ s=Ro:=by rw[HR.out,←J.2,Nat.mul_div_cancel _ p0]
   have J3:(R:Int) / 2 ^ s=(Ro:Int):=by rw[←J2,Knuth.shr]
   have J1:IntKind.u64.wrap (IntKind.u64.wrap ((T1:Int) * 4294967296)+(T2:Int))=(Qo:Int):=by
    have b6:(hi * 18446744073709551616+lo) / y<18446744073709551616:=by
     rw[Nat.div_lt_iff_lt_mul (by omega)]
     have:(hi+1) * 18446744073709551616≤y * 18446744073709551616:=Nat.mul_le_mul_right _ hy
     omega
    rw[IntKind.wrap_u64,IntKind.wrap_u64,HQ.out,J.1]
    rw[J.1] at b6
    omega
   clear G3 J J2 b1 b2 s2 s3 b4 G2 hV hl hn0 hn1 hr2 hr0 hq0 hq2 s4 s5 s8 F3 F4 hy hy2 hlo y0 y1 y2 y3 HS HN HY HYs HV HT1 HT2 KK0 KK2 hh h1 p0 hY0
   go_wp2_with fail
   go_ret2
   exact⟨rfl,0,rfl⟩
theorem qdj (lo y:Nat)(hy:0<y)(hy2:y<18446744073709551616)(hlo:lo<18446744073709551616)(w:World):
  Calls Tryz.prog 153 #[.int .u64 ((0:Nat):Int),.int .u64 (lo:Int),.int .u64 (y:Int)] w
   (Drew (.tuple #[.int .u64 ((lo / y:Nat):Int),.int .u64 ((lo % y:Nat):Int)]) w):=by
 have e1:(lo:Int) / (y:Int)=((lo / y:Nat):Int):=by rw[Int.natCast_ediv]
 have e2:(lo:Int) % (y:Int)=((lo % y:Nat):Int):=by rw[Int.natCast_emod]
 have q0:(y:Int)≠0:=by omega
 have q1:((y:Int) == 0)=false:=by rw[beq_eq_false_iff_ne]; omega
 have q2:lo / y≤lo:=Nat.div_le_self _ _
 have q3:lo % y<y:=Nat.mod_lt _ hy
 have e3:IntKind.u64.wrap ((lo:Int).tdiv (y:Int))=((lo / y:Nat):Int):=by
  rw[Int.tdiv_eq_ediv_of_nonneg (by omega),e1]; generalize lo / y=z at *; rw[IntKind.wrap_u64]; omega
 have e4:(lo:Int).tmod (y:Int)=((lo % y:Nat):Int):=by
  rw[Int.tmod_eq_emod_of_nonneg (by omega),e2]
 generalize lo / y=Q at *
 generalize lo % y=R at *
 rw[show(((0:Nat)):Int)=0 from rfl]
 have y1:decide ((y:Int)≤(0:Int))=false:=by simp; omega
 go_enter Tryz.func153,Tryz.ntmps153
 go_wp2_with fail
 go_quiet (fail)
 all_goals go_wp2_with fail
 go_ret2
 exact⟨rfl,_,rfl⟩
theorem qaf (hi lo y:Nat)(hy:hi<y)(hy2:y<18446744073709551616)(hlo:lo<18446744073709551616)(w:World):
  Calls Tryz.prog 153 #[.int .u64 (hi:Int),.int .u64 (lo:Int),.int .u64 (y:Int)] w
   (Drew (.tuple #[.int .u64 (((hi * 18446744073709551616+lo) / y:Nat):Int),.int .u64 (((hi * 18446744073709551616+lo) % y:Nat):Int)]) w):=by
 rcases Nat.eq_zero_or_pos hi with rfl|h
 ·have:=qdj lo y hy hy2 hlo w
  rw[show 0 * 18446744073709551616+lo=lo by omega]
  exact this
 ·exact qdk hi lo y hy hy2 hlo h w
end
section
open Go.RowKit
namespace Num
def up (q r d:Nat):Nat:=if r > d - r∨(r=d - r∧q % 2=1) then(q+1) % 18446744073709551616 else q
def scl (x y d:Nat):Nat:=
 if x * y / 18446744073709551616<d then min (up (x * y / d) (x * y % d) d) 1000000000000000 else 1000000000000000
def sgn (b:Bool)(n:Nat):Int:=if b then -(n:Int) else(n:Int)
def mul (a b:Int):Int:=sgn (decide (clamp a<0) != decide (clamp b<0)) (scl (clamp a).natAbs (clamp b).natAbs 1000000)
def div (a b:Int):Int:=if clamp b=0 then 0 else sgn (decide (clamp a<0) != decide (clamp b<0)) (scl (clamp a).natAbs 1000000 (clamp b).natAbs)
end Num
open Num
set_option maxHeartbeats 1000000 in
theorem zop (x y d:Nat)(b:Bool)(hx:x<18446744073709551616)(hy:y<18446744073709551616)(hd:0<d)(hd2:d<18446744073709551616)(w:World):
  Calls Tryz.prog 118 #[.int .u64 (x:Int),.int .u64 (y:Int),.int .u64 (d:Int),.bool b] w (Drew (.int .i64 (sgn b (scl x y d))) w):=by
 obtain⟨hi,hhi⟩:∃ hi,Hid (hi=x * y / 18446744073709551616):=⟨_,rfl⟩
 obtain⟨lo,hlo⟩:∃ lo,Hid (lo=x * y % 18446744073709551616):=⟨_,rfl⟩
 have b2:lo<18446744073709551616:=by rw[hlo.out]; exact Nat.mod_lt _ (by omega)
 have hN:hi * 18446744073709551616+lo=x * y:=by rw[hhi.out,hlo.out]; omega
 have HN:=hid' hN
 have M:=Tryz.bits_Mul64 x y hx hy w
 rw[←hhi.out,←hlo.out] at M
 have HM:=hid' M
 have b3:hi≤18446744073709551615:=by
  have h3:x * y≤18446744073709551615 * 18446744073709551616:=Nat.mul_le_mul (by omega) (by omega)
  omega
 clear M hN
 by_cases h:hi<d
 ·have hS:scl x y d=min (up (x * y / d) (x * y % d) d) 1000000000000000:=by rw[scl,←hhi.out,if_pos h]
  have D:=qaf hi lo d h hd2 b2 w
  rw[HN.out] at D
  have r1:x * y % d<d:=Nat.mod_lt _ hd
  have q1:x * y / d<18446744073709551616:=by
   rw[Nat.div_lt_iff_lt_mul hd]
   have:=HN.out
   have h5:(hi+1) * 18446744073709551616≤d * 18446744073709551616:=Nat.mul_le_mul_right _ h
   omega
  rw[hS]
  generalize x * y / d=q at *
  generalize x * y % d=r at *
  have HD:=hid' D
  have h':(hi:Int)<(d:Int):=by omega
  have q2:(q:Int)≤18446744073709551615:=by omega
  have d1:(d:Int)≤18446744073709551615:=by omega
  have r2:(r:Int)<(d:Int):=by omega
  have d0:(0:Int)<(d:Int):=by omega
  clear D hS h q1 hhi hlo HN hx hy hd hd2 b2 b3 r1
  by_cases c1:(d:Int) - (r:Int)<(r:Int)
  ·have hu:up q r d=(q+1) % 18446744073709551616:=by rw[up,if_pos (by omega)]
   have e2:IntKind.u64.wrap ((q:Int)+1)=(((q+1) % 18446744073709551616:Nat):Int):=by rw[IntKind.wrap_u64]; omega
   have p1:(q+1) % 18446744073709551616<18446744073709551616:=Nat.mod_lt _ (by omega)
   rw[hu]
   have p2:(((q+1) % 18446744073709551616:Nat):Int)≤18446744073709551615:=by omega
   generalize (q+1) % 18446744073709551616=P at *
   clear hu p1
   by_cases hp:(P:Int)<1000000000000000
   ·have hv:min P 1000000000000000=P:=by omega
    rw[hv]
    have hp2:decide ((P:Int)<1000000000000000)=true:=by simp; omega
    have e3:IntKind.i64.wrap (P:Int)=(P:Int):=IntWalk.i64_in _ (by omega)
    clear hv
    cases b
    all_goals go_enter Tryz.func118,Tryz.ntmps118
    all_goals go_wp2_with fail
    all_goals refine HM.out.mono ?_
    all_goals rintro e w1 ⟨rfl,rfl⟩
    all_goals go_wp2_with fail
    all_goals refine(HD.out).mono ?_
    all_goals rintro e w2 ⟨rfl,nd,rfl⟩
    all_goals go_wp2_with fail
    all_goals go_ret
    all_goals exact⟨rfl,nd,rfl⟩
   ·have hv:min P 1000000000000000=1000000000000000:=by omega
    rw[hv]
    have hp2:decide ((P:Int)<1000000000000000)=false:=by simp; omega
    clear hv
    cases b
    all_goals go_enter Tryz.func118,Tryz.ntmps118
    all_goals go_wp2_with fail
    all_goals refine HM.out.mono ?_
    all_goals rintro e w1 ⟨rfl,rfl⟩
    all_goals go_wp2_with fail
    all_goals refine(HD.out).mono ?_
    all_goals rintro e w2 ⟨rfl,nd,rfl⟩
    all_goals go_wp2_with fail
    all_goals go_ret
    all_goals exact⟨rfl,nd,rfl⟩
  ·by_cases c2:(r:Int)=(d:Int) - (r:Int)
   ·have c3:(d:Int) - (r:Int)=(r:Int):=by omega
    by_cases c4:(q:Int) % 2=1
    ·have hu:up q r d=(q+1) % 18446744073709551616:=by rw[up,if_pos (by omega)]
     have e2:IntKind.u64.wrap ((q:Int)+1)=(((q+1) % 18446744073709551616:Nat):Int):=by rw[IntKind.wrap_u64]; omega
     have p1:(q+1) % 18446744073709551616<18446744073709551616:=Nat.mod_lt _ (by omega)
     rw[hu]
     have p2:(((q+1) % 18446744073709551616:Nat):Int)≤18446744073709551615:=by omega
     generalize (q+1) % 18446744073709551616=P at *
     clear hu c2 c1 p1
     by_cases hp:(P:Int)<1000000000000000
     ·have hv:min P 1000000000000000=P:=by omega
      rw[hv]
      have hp2:decide ((P:Int)<1000000000000000)=true:=by simp; omega
      have e3:IntKind.i64.wrap (P:Int)=(P:Int):=IntWalk.i64_in _ (by omega)
      clear hv
      cases b
      all_goals go_enter Tryz.func118,Tryz.ntmps118
      all_goals go_wp2_with fail
      all_goals refine HM.out.mono ?_
      all_goals rintro e w1 ⟨rfl,rfl⟩
      all_goals go_wp2_with fail
      all_goals refine(HD.out).mono ?_
      all_goals rintro e w2 ⟨rfl,nd,rfl⟩
      all_goals go_wp2_with fail
      all_goals go_ret
      all_goals exact⟨rfl,nd,rfl⟩
     ·have hv:min P 1000000000000000=1000000000000000:=by omega
      rw[hv]
      have hp2:decide ((P:Int)<1000000000000000)=false:=by simp; omega
      clear hv
      cases b
      all_goals go_enter Tryz.func118,Tryz.ntmps118
      all_goals go_wp2_with fail
      all_goals refine HM.out.mono ?_
      all_goals rintro e w1 ⟨rfl,rfl⟩
      all_goals go_wp2_with fail
      all_goals refine(HD.out).mono ?_
      all_goals rintro e w2 ⟨rfl,nd,rfl⟩
      all_goals go_wp2_with fail
      all_goals go_ret
      all_goals exact⟨rfl,nd,rfl⟩
    ·have hu:up q r d=q:=by rw[up,if_neg (by omega)]
     rw[hu]
     have c5:((q:Int) % 2 == 1)=false:=by rw[beq_eq_false_iff_ne]; exact c4
     clear hu c2 c1
     by_cases hp:(q:Int)<1000000000000000
     ·have hv:min q 1000000000000000=q:=by omega
      rw[hv]
      have hp2:decide ((q:Int)<1000000000000000)=true:=by simp; omega
      have e3:IntKind.i64.wrap (q:Int)=(q:Int):=IntWalk.i64_in _ (by omega)
      clear hv
      cases b
      all_goals go_enter Tryz.func118,Tryz.ntmps118
      all_goals go_wp2_with fail
      all_goals refine HM.out.mono ?_
      all_goals rintro e w1 ⟨rfl,rfl⟩
      all_goals go_wp2_with fail
      all_goals refine(HD.out).mono ?_
      all_goals rintro e w2 ⟨rfl,nd,rfl⟩
      all_goals go_wp2_with fail
      all_goals go_ret
      all_goals exact⟨rfl,nd,rfl⟩
     ·have hv:min q 1000000000000000=1000000000000000:=by omega
      rw[hv]
      have hp2:decide ((q:Int)<1000000000000000)=false:=by simp; omega
      clear hv
      cases b
      all_goals go_enter Tryz.func118,Tryz.ntmps118
      all_goals go_wp2_with fail
      all_goals refine HM.out.mono ?_
      all_goals rintro e w1 ⟨rfl,rfl⟩
      all_goals go_wp2_with fail
      all_goals refine(HD.out).mono ?_
      all_goals rintro e w2 ⟨rfl,nd,rfl⟩
      all_goals go_wp2_with fail
      all_goals go_ret
      all_goals exact⟨rfl,nd,rfl⟩
   ·have hu:up q r d=q:=by rw[up,if_neg (by omega)]
    rw[hu]
    have c5:((r:Int) == (d:Int) - (r:Int))=false:=by rw[beq_eq_false_iff_ne]; exact c2
    have c6:decide ((d:Int) - (r:Int)<(r:Int))=false:=by simp; omega
    clear hu
    by_cases hp:(q:Int)<1000000000000000
    ·have hv:min q 1000000000000000=q:=by omega
     rw[hv]
     have hp2:decide ((q:Int)<1000000000000000)=true:=by simp; omega
     have e3:IntKind.i64.wrap (q:Int)=(q:Int):=IntWalk.i64_in _ (by omega)
     clear hv
     cases b
     all_goals go_enter Tryz.func118,Tryz.ntmps118
     all_goals go_wp2_with fail
     all_goals refine HM.out.mono ?_
     all_goals rintro e w1 ⟨rfl,rfl⟩
     all_goals go_wp2_with fail
     all_goals refine(HD.out).mono ?_
     all_goals rintro e w2 ⟨rfl,nd,rfl⟩
     all_goals go_wp2_with fail
     all_goals go_ret
     all_goals exact⟨rfl,nd,rfl⟩
    ·have hv:min q 1000000000000000=1000000000000000:=by omega
     rw[hv]
     have hp2:decide ((q:Int)<1000000000000000)=false:=by simp; omega
     clear hv
     cases b
     all_goals go_enter Tryz.func118,Tryz.ntmps118
     all_goals go_wp2_with fail
     all_goals refine HM.out.mono ?_
     all_goals rintro e w1 ⟨rfl,rfl⟩
     all_goals go_wp2_with fail
     all_goals refine(HD.out).mono ?_
     all_goals rintro e w2 ⟨rfl,nd,rfl⟩
     all_goals go_wp2_with fail
     all_goals go_ret
     all_goals exact⟨rfl,nd,rfl⟩
 ·have hS:scl x y d=1000000000000000:=by rw[scl,←hhi.out,if_neg h]
  rw[hS]
  have h':¬(hi:Int)<(d:Int):=by omega
  clear hS h hhi hlo HN
  cases b
  all_goals go_enter Tryz.func118,Tryz.ntmps118
  all_goals go_wp2_with fail
  all_goals refine HM.out.mono ?_
  all_goals rintro e w1 ⟨rfl,rfl⟩
  all_goals go_wp2_with fail
  all_goals go_ret
  all_goals exact⟨rfl,0,rfl⟩
theorem zli (a:Int):(clamp a).natAbs≤1000000000000000:=by
 have:=clamp_le a
 have:=clamp_ge a
 omega
set_option maxHeartbeats 1000000 in
theorem zpx (a b:Int)(w:World):Calls Tryz.prog 62 #[.int .i64 a,.int .i64 b] w (Drew (.int .i64 (mul a b)) w):=by
 have HA:=hid' (zjc a w)
 have HB:=hid' (zjc b w)
 have h1:=zli a
 have h2:=zli b
 have HS:=hid' (zop (clamp a).natAbs (clamp b).natAbs 1000000 (decide (clamp a<0) != decide (clamp b<0)) (by omega) (by omega) (by omega) (by omega) w)
 have e:mul a b=sgn (decide (clamp a<0) != decide (clamp b<0)) (scl (clamp a).natAbs (clamp b).natAbs 1000000):=rfl
 rw[e]
 clear e h1 h2
 generalize (clamp a).natAbs=x at *
 generalize (clamp b).natAbs=y at *
 generalize decide (clamp a<0)=i at *
 generalize decide (clamp b<0)=j at *
 go_enter Tryz.func62,Tryz.ntmps62
 go_wp2_with fail
 refine HA.out.mono ?_
 rintro e w1 ⟨rfl,rfl⟩
 go_wp2_with fail
 refine HB.out.mono ?_
 rintro e w1 ⟨rfl,rfl⟩
 cases i<;>cases j
 all_goals go_wp2_with fail
 all_goals refine HS.out.mono ?_
 all_goals rintro e w1 ⟨rfl,nd,rfl⟩
 all_goals go_wp2_with fail
 all_goals go_ret
 all_goals exact⟨rfl,nd,rfl⟩
set_option maxHeartbeats 1000000 in
theorem zqd (a b:Int)(w:World):Calls Tryz.prog 122 #[.int .i64 a,.int .i64 b] w (Drew (.int .i64 (div a b)) w):=by
 have HA:=hid' (zjc a w)
 have HB:=hid' (zjc b w)
 have h1:=zli a
 have h2:=zli b
 by_cases hb:clamp b=0
 ·have e:div a b=0:=by rw[div,if_pos hb]
  rw[e]
  rw[hb] at HB
  clear e h1 h2 hb
  go_enter Tryz.func122,Tryz.ntmps122
  go_wp2_with fail
  refine HA.out.mono ?_
  rintro e w1 ⟨rfl,rfl⟩
  go_wp2_with fail
  refine HB.out.mono ?_
  rintro e w1 ⟨rfl,rfl⟩
  go_wp2_with fail
  go_ret
  exact⟨rfl,0,rfl⟩
 ·have e:div a b=sgn (decide (clamp a<0) != decide (clamp b<0)) (scl (clamp a).natAbs 1000000 (clamp b).natAbs):=by rw[div,if_neg hb]
  rw[e]
  have h0:0<(clamp b).natAbs:=by omega
  have HS:=hid' (zop (clamp a).natAbs 1000000 (clamp b).natAbs (decide (clamp a<0) != decide (clamp b<0)) (by omega) (by omega) (by omega) (by omega) w)
  clear e h1 h2 hb
  generalize (clamp a).natAbs=x at *
  generalize (clamp b).natAbs=y at *
  generalize decide (clamp a<0)=i at *
  generalize decide (clamp b<0)=j at *
  have hy:((y:Int) == 0)=false:=by rw[beq_eq_false_iff_ne]; omega
  go_enter Tryz.func122,Tryz.ntmps122
  go_wp2_with fail
  refine HA.out.mono ?_
  rintro e w1 ⟨rfl,rfl⟩
  go_wp2_with fail
  refine HB.out.mono ?_
  rintro e w1 ⟨rfl,rfl⟩
  cases i<;>cases j
  all_goals go_wp2_with fail
  all_goals refine HS.out.mono ?_
  all_goals rintro e w1 ⟨rfl,nd,rfl⟩
  all_goals go_wp2_with fail
  all_goals go_ret
  all_goals exact⟨rfl,nd,rfl⟩
end
end Go.Proofs.YtanlmbbalamgkaaGreatDoor
