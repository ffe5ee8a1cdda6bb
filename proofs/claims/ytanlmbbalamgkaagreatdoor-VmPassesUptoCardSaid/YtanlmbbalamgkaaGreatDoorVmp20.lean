/- Proved: lemmas and contracts of the functions that the law reaches, part 20 of 35: VmRun. Conditions: as each states. -/
import Derived.Test.YtanlmbbalamgkaaGreatDoorVmp10
import Derived.Test.YtanlmbbalamgkaaGreatDoorVmp19
namespace Go.Proofs.YtanlmbbalamgkaaGreatDoor
set_option linter.unusedVariables false
set_option linter.unusedSimpArgs false
section
namespace Vm
open Gen
def truth (b:Bool):Int:=if b then 1 else 0
def rk (op b c:Int):Int:=
 if op=4 then Num.neg b
 else if op=12 then truth (decide (b=0))
 else if op=5 then Num.add b c
 else if op=6 then Num.sub b c
 else if op=7 then Num.mul b c
 else if op=8 then Num.div b c
 else if op=9∨op=13 then truth (decide (b<c))
 else if op=10 then truth (decide (b≤c))
 else if op=11 then truth (decide (b=c))
 else if op=14 then Dt.plus b (Num.whole c)
 else if op=15 then Dt.months b (Num.whole c)
 else if op=16 then Dt.years b c
 else if op=17 then Dt.years30 b c
 else b
def env (F:List Fd.Feed)(day:Int):Env:=⟨day,fun n=>Dt.plus day (-n),fun s n=>Fd.tells F day s n,rk,Num.mul,Num.neg,Num.clamp⟩
structure Fwd (c:Cd)(a:Int)(x:Ix):Prop where
 lo:1≤x.op
 hi:x.op≤30
 more:x.op≠30→a+1<c.ins.length
 go:kx x.op=true→a<x.to∧x.to<c.ins.length
 call:x.op=29→0≤x.n∧x.n<c.waits.length∧a<dq c x.n∧dq c x.n<c.ins.length
 wait:x.op=28→0≤x.n∧x.n<c.waits.length
 now:x.op=2∨x.op=3→0≤x.n∧x.n≤3660
 ra:0≤x.a∧x.a<256
 rb:0≤x.b∧x.b<256
 rc:0≤x.c∧x.c<256
theorem zfx {u:Bool}{r regs:Int}(h:fld u r regs=true)(hr:regs≤256):0≤r∧r<256:=by
 unfold fld at h;split at h
 ·simp only[Bool.and_eq_true,decide_eq_true_eq] at h; omega
 ·simp only[decide_eq_true_eq] at h; omega
theorem zdm {c:Cd}{n:Int}(h:place c n=true):0≤n∧n<c.ins.length:=by
 unfold place at h;simpa only[Bool.and_eq_true,decide_eq_true_eq] using h
theorem zjx {c:Cd}(h:right c=true){w:Wt}(hw:w∈c.waits):0≤w.entry∧w.entry<c.ins.length:=by
 have:=(du h).2.2.2.2.2.1 w hw;unfold kz at this;simp only[Bool.and_eq_true] at this;exact zdm this.1
theorem fwd {c:Cd}(h:right c=true){a:Nat}{x:Ix}(hx:c.ins[a]? = some x):Fwd c (a:Int) x:=by
 obtain⟨h1,h2,h3,h4,h5,h6,h7⟩:=du h;have hi:=h7 a x hx;have ha:=(List.getElem?_eq_some_iff.1 hx).1;unfold insOk at hi;simp only[Bool.and_eq_true,decide_eq_true_eq] at hi;obtain⟨q1,q2,q3,q4,q5,q6,q7,q8⟩:=hi;refine⟨q1,q2,fun hn=>?_,fun hu=>?_,fun hc=>?_,fun hw=>?_,fun hw=>?_,zfx q3 h1.2,zfx q4 h1.2,zfx q5 h1.2⟩
 ·rcases(by omega:a+1<c.ins.length∨a=c.ins.length - 1) with h8|h8
  ·omega
  ·exfalso;apply hn;rw[←h5];unfold ml;rw[List.getLast?_eq_getElem?,←h8,hx]
 ·unfold uj at q6;rw[if_pos hu] at q6;simpa only[Bool.and_eq_true,decide_eq_true_eq] using q6
 ·unfold el within at q7;rw[if_neg (by omega),if_neg (by omega),if_neg (by omega),if_neg (by omega),if_pos hc] at q7;simp only[Bool.and_eq_true,decide_eq_true_eq] at q7;refine⟨by omega,by omega,q7.2,?_⟩;have hn:x.n.toNat<c.waits.length:=by omega
  have he:dq c x.n=c.waits[x.n.toNat].entry:=by unfold dq; rw[List.getElem?_eq_getElem hn]
  rw[he];exact(zjx h (List.getElem_mem hn)).2
 ·unfold el within at q7;rw[if_neg (by omega),if_neg (by omega),if_neg (by omega),if_pos hw] at q7;simp only[Bool.and_eq_true,decide_eq_true_eq] at q7;omega
 ·unfold el within at q7;rw[if_neg (by omega),if_pos hw] at q7;simpa only[Bool.and_eq_true,decide_eq_true_eq] using q7
theorem zuv {c:Cd}{a:Nat}{x:Ix}(hx:c.ins[a]? = some x):insAt c (a:Int)=x:=by
 unfold insAt; rw[Int.toNat_natCast,hx]; rfl
theorem run_in (c:Cd)(E:Env){a:Nat}{x:Ix}(hx:c.ins[a]? = some x)(f:Int)(r:List Int){H:List (Int × Int)}{O:List (ByteArray × Int)}{s:Nat}(hs:s+1≤65536):run c E (a:Int) f r ⟨H,O,s,false⟩ =
  match act c E x (a:Int) f r with
   | .stop=>⟨H,O,s+1,false⟩
   | .next a' f' r'=>run c E a' f' r' ⟨H,O,s+1,false⟩
   | .pay=>run c E ((a+1:Nat):Int) f r ⟨H,O++[(x.s,f)],s+1,false⟩
   | .hold=>run c E ((a+1:Nat):Int) f r ⟨H++[(x.n,f)],O,s+1,decide (250<H.length+1)⟩
   | .call e=>run c E ((a+1:Nat):Int) f r (run c E e f zeros ⟨H,O,s+1,false⟩):=by
 rw[run_step,if_neg (by simp; omega),zuv hx];rfl
theorem run_out (c:Cd)(E:Env)(a:Int)(f:Int)(r:List Int){st:St}(h:65536<st.steps+1∨st.over=true):run c E a f r st=⟨st.holds,st.out,st.steps+1,true⟩:=by
 rw[run_step,if_pos h]
theorem zvw {c:Cd}{E:Env}{x:Ix}{a:Nat}{f:Int}{r:List Int}(h:Fwd c (a:Int) x){a' f':Int}{r':List Int}(e:act c E x (a:Int) f r=.next a' f' r'):(a:Int)<a'∧a'<c.ins.length:=by
 have hm:=h.more;have ht:=h.go;have use:(x.op=2∨x.op=20∨x.op=19∨x.op=21∨x.op=22)→kx x.op=true:=by
  rintro (h|h|h|h|h)<;>rw[h]<;>rfl
 unfold act at e;by_cases A0:x.op=30
 ·rw[if_pos A0] at e; cases e
 have h1:=hm A0;rw[if_neg A0] at e;by_cases h2:x.op=1
 ·rw[if_pos h2] at e; cases e; omega
 rw[if_neg h2] at e;by_cases h3:x.op=3
 ·rw[if_pos h3] at e; cases e; omega
 rw[if_neg h3] at e;by_cases h4:x.op=2
 ·rw[if_pos h4] at e
  have:=ht (use (.inl h4));cases hf:E.feed x.s x.n with
  |none=>rw[hf] at e; cases e; omega
  |some n=>rw[hf] at e; cases e; omega
 rw[if_neg h4] at e;by_cases h5:x.op=20∨x.op=19∨x.op=21∨x.op=22
 ·rw[if_pos h5] at e
  have:=ht (use (.inr h5));by_cases hj:jumps E x (reg r x.b)=true
  ·rw[if_pos hj] at e; cases e; omega
  ·rw[if_neg hj] at e; cases e; omega
 rw[if_neg h5] at e;repeat' split at e
 all_goals first|cases e|skip
 all_goals omega
theorem zwb {c:Cd}{E:Env}{x:Ix}{a:Nat}{f:Int}{r:List Int}(h:Fwd c (a:Int) x){e':Int}(e:act c E x (a:Int) f r=.call e'):x.op=29∧e'=dq c x.n∧(a:Int)<e'∧e'<c.ins.length:=by
 have hc:=h.call;by_cases A0:x.op=29
 ·have hh:=hc A0;rw[act,if_neg (by omega),if_neg (by omega),if_neg (by omega),if_neg (by omega),if_neg (by omega),if_neg (by omega),if_neg (by omega),if_neg (by omega),if_neg (by omega),if_neg (by omega),if_neg (by omega),if_pos A0] at e;cases e;exact⟨A0,rfl,by omega,by omega⟩
 ·exfalso;unfold act at e;by_cases h0:x.op=30
  ·rw[if_pos h0] at e; cases e
  rw[if_neg h0] at e;by_cases h1:x.op=1
  ·rw[if_pos h1] at e; cases e
  rw[if_neg h1] at e;by_cases h2:x.op=3
  ·rw[if_pos h2] at e; cases e
  rw[if_neg h2] at e;by_cases h3:x.op=2
  ·rw[if_pos h3] at e;cases hf:E.feed x.s x.n with
   |none=>rw[hf] at e; cases e
   |some n=>rw[hf] at e; cases e
  rw[if_neg h3] at e;by_cases h4:x.op=20∨x.op=19∨x.op=21∨x.op=22
  ·rw[if_pos h4] at e; cases e
  rw[if_neg h4] at e;by_cases h5:x.op=23
  ·rw[if_pos h5] at e; cases e
  rw[if_neg h5] at e;by_cases h6:x.op=24
  ·rw[if_pos h6] at e; cases e
  rw[if_neg h6] at e;by_cases h7:x.op=25
  ·rw[if_pos h7] at e; cases e
  rw[if_neg h7] at e;by_cases h8:x.op=26
  ·rw[if_pos h8] at e; cases e
  rw[if_neg h8] at e;by_cases h9:x.op=27
  ·rw[if_pos h9] at e;by_cases hf:f=0
   ·rw[if_pos hf] at e; cases e
   ·rw[if_neg hf] at e; cases e
  rw[if_neg h9] at e;by_cases A1:x.op=28
  ·rw[if_pos A1] at e; cases e
  rw[if_neg A1,if_neg A0] at e;cases e
theorem zce {c:Cd}{E:Env}{x:Ix}{a:Nat}{f:Int}{r:List Int}(h:Fwd c (a:Int) x)(e:act c E x (a:Int) f r=.pay∨act c E x (a:Int) f r=.hold∨∃ e',act c E x (a:Int) f r=.call e'):a+1<c.ins.length:=by
 have hm:=h.more
 have:x.op≠30:=by
  intro A0;rcases e with e|e|⟨_,e⟩ <;> · rw[act,if_pos A0] at e; cases e
 have:=hm this;omega
structure StOk (st:St):Prop where
 holds:st.holds.length≤st.steps
 out:st.out.length≤st.steps
 most:st.steps≤200000
 fine:st.over=false→st.steps≤65536∧st.holds.length≤250
theorem run_ok (c:Cd)(E:Env)(hr:right c=true):∀(d a:Nat) (f:Int) (r:List Int) (st:St),c.ins.length - a≤d→a<c.ins.length→StOk st→st.over=false →
  StOk (run c E (a:Int) f r st)∧(run c E (a:Int) f r st).steps≤65537+(c.ins.length - a):=by
 have hn:c.ins.length≤16384:=(du hr).2.2.2.1;intro d;induction d with
 |zero=>intro a f r st h1 h2; omega
 |succ d ih=>
  intro a f r st h1 h2 A2 A1;obtain⟨k1,k2,k3,k4⟩:=A2;obtain⟨H,O,s,o⟩:=st;simp only at A1 k1 k2 k3 k4;subst A1;obtain⟨x,hx⟩:∃ x,c.ins[a]? = some x:=⟨_,List.getElem?_eq_getElem h2⟩
  have hf:=fwd hr hx;obtain⟨k5,k6⟩:=k4 rfl;by_cases hs:65536<s+1
  ·rw[run_out _ _ _ _ _ (.inl hs)];exact⟨⟨by simp only; omega,by simp only; omega,by simp only; omega,fun h=>by cases h⟩,by simp only; omega⟩
  ·rw[run_in c E hx f r (by omega)];cases hact:act c E x (a:Int) f r with
   |stop=>exact⟨⟨by simp only; omega,by simp only; omega,by simp only; omega,fun h=>by simp only; omega⟩,by simp only; omega⟩
   |next a' f' r'=>
    have hb:=zvw hf hact;obtain⟨b,rfl⟩:∃ b:Nat,a'=(b:Int):=⟨a'.toNat,by omega⟩
    have:=ih b f' r' ⟨H,O,s+1,false⟩ (by omega) (by omega) ⟨by simp only; omega,by simp only; omega,by simp only; omega,fun h=>by simp only; omega⟩ rfl;exact⟨this.1,Nat.le_trans this.2 (by omega)⟩
   |pay=>
    have hb:=zce hf (.inl hact)
    have:=ih (a+1) f r ⟨H,O++[(x.s,f)],s+1,false⟩ (by omega) (by omega) ⟨by simp only; omega,by simp only[List.length_append,List.length_cons,List.length_nil]; omega,by simp only; omega,fun h=>by simp only; omega⟩ rfl;exact⟨this.1,Nat.le_trans this.2 (by omega)⟩
   |hold=>
    have hb:=zce hf (.inr (.inl hact));by_cases A0:250<H.length+1
    ·rw[decide_eq_true A0];simp only;rw[run_out _ _ _ _ _ (.inr rfl)];exact⟨⟨by simp only[List.length_append,List.length_cons,List.length_nil]; omega,by simp only; omega,by simp only; omega,fun h=>by cases h⟩,by simp only; omega⟩
    ·rw[decide_eq_false A0]
     have:=ih (a+1) f r ⟨H++[(x.n,f)],O,s+1,false⟩ (by omega) (by omega) ⟨by simp only[List.length_append,List.length_cons,List.length_nil]; omega,by simp only; omega,by simp only; omega,fun h=>by simp only[List.length_append,List.length_cons,List.length_nil]; omega⟩ rfl;exact⟨this.1,Nat.le_trans this.2 (by omega)⟩
   |call e=>
    have hb:=zce hf (.inr (.inr ⟨e,hact⟩));obtain⟨-, -,A4,A3⟩:=zwb hf hact;obtain⟨b,rfl⟩:∃ b:Nat,e=(b:Int):=⟨e.toNat,by omega⟩
    obtain⟨j1,j2⟩:=ih b f zeros ⟨H,O,s+1,false⟩ (by omega) (by omega) ⟨by simp only; omega,by simp only; omega,by simp only; omega,fun h=>by simp only; omega⟩ rfl;simp only;generalize run c E (b:Int) f zeros ⟨H,O,s+1,false⟩=st2 at *;cases ho:st2.over with
    |true=>
     rw[run_out _ _ _ _ _ (.inr ho)];obtain⟨m1,m2,m3,m4⟩:=j1;exact⟨⟨by simp only; omega,by simp only; omega,by simp only; omega,fun h=>by cases h⟩,by simp only; omega⟩
    |false=>
     have:=ih (a+1) f r st2 (by omega) (by omega) j1 ho;exact⟨this.1,Nat.le_trans this.2 (by omega)⟩
end Vm
end
end Go.Proofs.YtanlmbbalamgkaaGreatDoor
