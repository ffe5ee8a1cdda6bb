/- Proved: lemmas and contracts of the functions that the law reaches, part 4 of 35: NumDivLaw. Conditions: as each states. -/
import Derived.Lib.ItoaNum
import Derived.Lib.EndianBits
import Derived.PlainAid
import Derived.WalkSmall
namespace Go.Proofs.YtanlmbbalamgkaaGreatDoor
set_option linter.unusedVariables false
set_option linter.unusedSimpArgs false
section
namespace Knuth
structure At (h U T q r:Nat):Prop where
 sum:q * h+r=U
 above:T≤q
theorem At.start (B h l U u:Nat)(hU:U<h * B+l)(hu:u<B)(hl:l<B)(h1:1≤h):
  At h U ((U * B+u) / (h * B+l)) (U / h) (U % h):=by
 refine⟨by rw[Nat.mul_comm]; exact Nat.div_add_mod U h,?_⟩;have hy:0<h * B+l:=Nat.lt_of_le_of_lt (Nat.zero_le _) hU;rw[Nat.div_le_iff_le_mul_add_pred hy];have e:=Nat.div_add_mod U h;have m:=Nat.mod_lt U h1;generalize U / h=q at *;generalize U % h=r at *;have e1:U * B=h * q * B+r * B:=by rw[←Nat.add_mul,e]
 have e2:(h * B+l) * q=h * q * B+l * q:=by rw[Nat.add_mul,Nat.mul_right_comm]
 have e3:(r+1) * B≤h * B:=Nat.mul_le_mul_right _ m;rw[Nat.add_mul,Nat.one_mul] at e3;rw[e1,e2];omega
theorem At.down {B h l U u q r:Nat}(A:At h U ((U * B+u) / (h * B+l)) q r)(hU:U<h * B+l)(hu:u<B)
  (c:B≤q∨B * r+u<q * l):1≤q∧At h U ((U * B+u) / (h * B+l)) (q - 1) (r+h):=by
 have hy:0<h * B+l:=Nat.lt_of_le_of_lt (Nat.zero_le _) hU;have key:(U * B+u) / (h * B+l)<q:=by
  rw[Nat.div_lt_iff_lt_mul hy];have e2:q * (h * B+l)=(q * h) * B+q * l:=by rw[Nat.mul_add,Nat.mul_assoc]
  rcases c with c|c
  ·have h3:B * (h * B+l)≤q * (h * B+l):=Nat.mul_le_mul_right _ c;have h4:B * (U+1)≤B * (h * B+l):=Nat.mul_le_mul_left _ hU;rw[Nat.mul_add,Nat.mul_one,Nat.mul_comm B U] at h4;omega
  ·rw[e2];have e3:U * B=(q * h) * B+B * r:=by rw[←A.sum,Nat.add_mul,Nat.mul_comm r B]
   omega
 refine⟨Nat.lt_of_le_of_lt (Nat.zero_le _) key,⟨?_,Nat.le_sub_one_of_lt key⟩⟩
 have:=A.sum;obtain⟨p,rfl⟩:∃ p,q=p+1:=⟨q - 1,by have:=Nat.lt_of_le_of_lt (Nat.zero_le _) key; omega⟩
 rw[Nat.add_mul] at this;simp only[Nat.add_sub_cancel];omega
theorem At.stop {B h l U u q r:Nat}(A:At h U ((U * B+u) / (h * B+l)) q r)(hU:U<h * B+l)(c:q * l≤B * r+u):
  q=(U * B+u) / (h * B+l):=by
 have hy:0<h * B+l:=Nat.lt_of_le_of_lt (Nat.zero_le _) hU;refine Nat.le_antisymm ?_ A.above;rw[Nat.le_div_iff_mul_le hy];have e2:q * (h * B+l)=(q * h) * B+q * l:=by rw[Nat.mul_add,Nat.mul_assoc]
 have e3:U * B=(q * h) * B+B * r:=by rw[←A.sum,Nat.add_mul,Nat.mul_comm r B]
 omega
theorem At.stop2 {B h l U u q r:Nat}(A:At h U ((U * B+u) / (h * B+l)) q r)(hU:U<h * B+l)(hl:l<B)(c:B≤r):
  q=(U * B+u) / (h * B+l):=by
 refine A.stop hU ?_;have hq:q<B:=by
  have:=A.sum;by_cases hc:B≤q
  ·have h2:B * h≤q * h:=Nat.mul_le_mul_right _ hc;rw[Nat.mul_comm B h] at h2;omega
  ·omega
 have h3:q * l≤B * r:=Nat.mul_le_mul (Nat.le_of_lt hq) (by omega);omega
theorem two_digits (B Y N U u1 u0:Nat)(hY:0<Y)(hN:N=(U * B+u1) * B+u0):
  N / Y=(U * B+u1) / Y * B+((U * B+u1) % Y * B+u0) / Y∧N % Y=((U * B+u1) % Y * B+u0) % Y:=by
 have e:=Nat.div_add_mod (U * B+u1) Y;generalize (U * B+u1) / Y=q at *;generalize (U * B+u1) % Y=r at *;have e2:N=(r * B+u0)+Y * (q * B):=by
  rw[hN,←e,Nat.add_mul,Nat.mul_assoc];omega
 rw[e2,Nat.add_mul_div_left _ _ hY,Nat.add_mul_mod_self_left];exact⟨by omega,rfl⟩
structure Shifted (hi lo y s:Nat):Prop where
 le:s≤63
 big:9223372036854775808≤y * 2 ^ s
 fits:y * 2 ^ s<18446744073709551616
 hiFits:hi * 2 ^ s<18446744073709551616
 loLow:lo / 2 ^ (64 - s)<2 ^ s
 sum:(hi * 2 ^ s+lo / 2 ^ (64 - s)) * 18446744073709551616+lo * 2 ^ s % 18446744073709551616=(hi * 18446744073709551616+lo) * 2 ^ s
 less:hi * 2 ^ s+lo / 2 ^ (64 - s)<y * 2 ^ s
theorem shifted (hi lo y:Nat)(A1:hi<y)(hy:y<18446744073709551616)(A2:lo<18446744073709551616):Shifted hi lo y (64 - Lib.bitLen y):=by
 have b:=Lib.bitLenAux_bounds 64 y (by omega) (by omega);rw[show Lib.bitLenAux 64 y=Lib.bitLen y from rfl] at b;have bl:Lib.bitLen y≤64:=Lib.bitLen_le y 64 (by omega) (by omega);generalize Lib.bitLen y=k at *;obtain⟨b1,b2,b3⟩:=b;obtain⟨s,rfl⟩:∃ s,k=64 - s:=⟨64 - k,by omega⟩
 have hs:s≤63:=by omega
 rw[show 64 - (64 - s)=s by omega];have p:(2:Nat) ^ (64 - s) * 2 ^ s=18446744073709551616:=by rw[←Nat.pow_add,show 64 - s+s=64 by omega]
 have p2:(2:Nat) ^ (64 - s - 1) * 2 ^ s=9223372036854775808:=by rw[←Nat.pow_add,show 64 - s - 1+s=63 by omega]
 have q:0<(2:Nat) ^ s:=Nat.two_pow_pos s;have q2:0<(2:Nat) ^ (64 - s):=Nat.two_pow_pos _;have hf:y * 2 ^ s<18446744073709551616:=by rw[←p]; exact Nat.mul_lt_mul_of_pos_right b3 q
 have hl:lo * 2 ^ s / 18446744073709551616=lo / 2 ^ (64 - s):=by rw[←p]; exact Nat.mul_div_mul_right _ _ q
 have A0:(hi * 2 ^ s+lo / 2 ^ (64 - s)) * 18446744073709551616+lo * 2 ^ s % 18446744073709551616=(hi * 18446744073709551616+lo) * 2 ^ s:=by
  have:=Nat.div_add_mod (lo * 2 ^ s) 18446744073709551616;rw[hl] at this;rw[Nat.add_mul,Nat.add_mul,Nat.mul_right_comm];omega
 refine⟨hs,by rw[←p2]; exact Nat.mul_le_mul_right _ b2,hf,?_,?_,A0,?_⟩
 ·exact Nat.lt_of_le_of_lt (Nat.mul_le_mul_right _ (Nat.le_of_lt A1)) hf
 ·rw[Nat.div_lt_iff_lt_mul q2,Nat.mul_comm,p]; exact A2
 ·have h1:(hi * 18446744073709551616+lo)<y * 18446744073709551616:=by omega
  have h2:(hi * 18446744073709551616+lo) * 2 ^ s<y * 18446744073709551616 * 2 ^ s:=Nat.mul_lt_mul_of_pos_right h1 q;rw[Nat.mul_right_comm,←A0] at h2;omega
theorem and_mask (x:Nat)(h:x<18446744073709551616):bits BinOp.and IntKind.u64 (x:Int) 4294967295=((x % 4294967296:Nat):Int):=by
 have:=bits_and_u64_nat x 4294967295 h (by omega);rw[show(4294967295:Nat)=2 ^ 32 - 1 from rfl,Nat.and_two_pow_sub_one_eq_mod] at this;exact this
theorem or_sum (x y s:Nat)(hs:s≤64)(hx:x * 2 ^ s<18446744073709551616)(hy:y<2 ^ s):bits BinOp.or IntKind.u64 (((x * 2 ^ s:Nat)):Int) (y:Int)=((x * 2 ^ s+y:Nat):Int):=by
 have h2:(2:Nat) ^ s≤2 ^ 64:=Nat.pow_le_pow_right (by omega) hs;have h:=bits_join IntKind.u64 64 (by decide) wraps_u64 s ((x * 2 ^ s:Nat):Int) (y:Int) (by omega) (by rw[Int.natCast_mul]; exact Int.mul_emod_left _ _) (by omega) (by omega) (by exact_mod_cast hy) (by omega);rw[h];omega
theorem rest_wrap (U u q Y:Nat)(hY:Y<18446744073709551616)(hq:q=(U * 4294967296+u) / Y)(A0:0<Y):
  (((U:Int) * 4294967296+u) - (q:Int) * (Y:Int)) % 18446744073709551616=(((U * 4294967296+u) % Y:Nat):Int):=by
 have e:=Nat.div_add_mod (U * 4294967296+u) Y;rw[←hq] at e;have m:=Nat.mod_lt (U * 4294967296+u) A0;generalize (U * 4294967296+u) % Y=R at *;have e2:(q:Int) * (Y:Int)=((Y * q:Nat):Int):=by rw[Int.natCast_mul,Int.mul_comm]
 rw[e2];omega
theorem shl_mod (a s:Nat):IntKind.u64.wrap ((a:Int) * 2 ^ s)=((a * 2 ^ s % 18446744073709551616:Nat):Int):=by
 have:((a:Int) * 2 ^ s)=((a * 2 ^ s:Nat):Int):=by rw[Int.natCast_mul,Int.natCast_pow]; rfl
 rw[IntKind.wrap_u64,this]; omega
theorem shl_fits (a s:Nat)(h:a * 2 ^ s<18446744073709551616):IntKind.u64.wrap ((a:Int) * 2 ^ s)=((a * 2 ^ s:Nat):Int):=by
 rw[shl_mod,Nat.mod_eq_of_lt h]
theorem shr (a s:Nat):(a:Int) / 2 ^ s=((a / 2 ^ s:Nat):Int):=by
 rw[Int.natCast_ediv,Int.natCast_pow]; rfl
end Knuth
end
end Go.Proofs.YtanlmbbalamgkaaGreatDoor
