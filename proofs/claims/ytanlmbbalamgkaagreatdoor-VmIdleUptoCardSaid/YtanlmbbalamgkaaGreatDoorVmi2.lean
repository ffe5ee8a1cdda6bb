/- Proved: lemmas and contracts of the functions that the law reaches, part 2 of 36: LedgerPlain, GenPlain, VmPlain. Conditions: as each states. -/
import Derived.Lib.Bytealg
import Derived.Test.YtanlmbbalamgkaaGreatDoorVmi1
namespace Go.Proofs.YtanlmbbalamgkaaGreatDoor
set_option linter.unusedVariables false
set_option linter.unusedSimpArgs false
section
namespace Wire
end Wire
namespace Led
open Wire
def zrz (c:UInt8):Bool:=(97≤c.toNat && c.toNat≤122) || (48≤c.toNat && c.toNat≤57) || c.toNat == 95
def curB (c:UInt8):Bool:=65≤c.toNat && c.toNat≤90
def lowB (c:UInt8):Bool:=97≤c.toNat && c.toNat≤122
def isName (s:ByteArray):Bool:=
 match s.data.toList with
 | []=>false
 |c::t=>decide (t.length+1≤24) && (lowB c && (c::t).all zrz)
def isCur (s:ByteArray):Bool:=decide (s.size=3) && s.data.toList.all curB
theorem name_len {s:ByteArray}(h:isName s=true):s.size≤24:=by
 have e:s.data.toList.length=s.size:=Array.length_toList
 unfold isName at h
 cases hl:s.data.toList with
 |nil=>rw[hl] at e; simp at e; omega
 |cons c t=>
  rw[hl] at h e
  simp only[Bool.and_eq_true,decide_eq_true_eq] at h
  simp at e; omega
end Led
end
section
namespace Gen
open Wire
structure Wt where
 entry:Int
 day:Int
 label:ByteArray
 first:Int
 second:Int
structure Ix where
 op:Int
 a:Int
 b:Int
 c:Int
 n:Int
 s:ByteArray
 to:Int
structure Cd where
 regs:Int
 waits:List Wt
 ins:List Ix
def useA (op:Int):Bool:=decide (1≤op) && decide (op≤18) || decide (op=25)
def useB (op:Int):Bool:=decide (4≤op) && decide (op≤19) || (decide (op=23) || decide (op=26))
def useC (op:Int):Bool:=decide (5≤op) && decide (op≤11) || decide (13≤op) && decide (op≤17)
def useT (op:Int):Bool:=decide (op=2) || decide (19≤op) && decide (op≤22)
def fld (used:Bool)(r regs:Int):Bool:=if used then decide (0≤r) && decide (r<regs) else decide (r=0)
def within (n low high:Int):Bool:=decide (low≤n) && decide (n≤high)
def zbt (c:Cd)(n:Int):Int:=match c.waits[n.toNat]? with|some w=>w.entry|none=>0
def zcj (c:Cd)(at':Int)(x:Ix):Bool:=
 if x.op=1 then within x.n (-1000000000000000) 1000000000000000
 else if x.op=2∨x.op=3 then within x.n 0 3660
 else if x.op=21∨x.op=22 then within x.n 0 73048
 else if x.op=28 then within x.n 0 (c.waits.length - 1)
 else if x.op=29 then within x.n 0 (c.waits.length - 1) && decide (at'<zbt c x.n)
 else decide (x.n=0)
def zcb (x:Ix):Bool:=if x.op=2 then Led.isName x.s else if x.op=27 then Led.isCur x.s else decide (x.s=⟨#[]⟩)
def toOk (c:Cd)(at':Int)(x:Ix):Bool:=if useT x.op then decide (at'<x.to) && decide (x.to<c.ins.length) else decide (x.to=0)
def insOk (c:Cd)(at':Int)(x:Ix):Bool:=
 decide (1≤x.op) && (decide (x.op≤30) && (fld (useA x.op) x.a c.regs && (fld (useB x.op) x.b c.regs && (fld (useC x.op) x.c c.regs && (toOk c at' x && (zcj c at' x && zcb x))))))
def place (c:Cd)(n:Int):Bool:=decide (0≤n) && decide (n<c.ins.length)
def zeq (c:Cd)(w:Wt):Bool:=
 place c w.entry && (within w.day 0 73048 && (if w.label=⟨#[]⟩ then decide (w.first=0) && decide (w.second=0) else Led.isName w.label && (place c w.first && place c w.second)))
def zhl (l:List Ix):Int:=match l.getLast? with|some x=>x.op|none=>0
def right (c:Cd):Bool:=
 within c.regs 0 256 && (decide (c.waits.length≤250) && (decide (1≤c.ins.length) && (decide (c.ins.length≤16384) && (decide (zhl c.ins=30) && (c.waits.all (zeq c) && (c.ins.zipIdx.all fun p=>insOk c (p.2:Int) p.1))))))
theorem zbl {c:Cd}(h:right c=true):(0≤c.regs∧c.regs≤256)∧c.waits.length≤250∧1≤c.ins.length∧c.ins.length≤16384∧zhl c.ins=30∧(∀ w∈c.waits,zeq c w=true)∧∀(i:Nat) x,c.ins[i]? = some x→insOk c (i:Int) x=true:=by
 unfold right within at h
 simp only[Bool.and_eq_true,decide_eq_true_eq,List.all_eq_true] at h
 obtain⟨h1,h2,h3,h4,h5,h6,h7⟩:=h
 refine⟨h1,h2,h3,h4,h5,h6,fun i x hx=>?_⟩
 refine h7 (x,i) ?_
 rw[List.mem_iff_getElem?]
 exact⟨i,by rw[List.getElem?_zipIdx,hx]; simp⟩
theorem qfe {s:ByteArray}(h:Led.isCur s=true):s.size≤24:=by
 unfold Led.isCur at h
 simp only[Bool.and_eq_true,decide_eq_true_eq] at h
 omega
end Gen
end
section
namespace Vm
open Gen
structure Env where
 day:Int
 now:Int→Int
 feed:ByteArray→Int→Option Int
 rk:Int→Int→Int→Int
 mul:Int→Int→Int
 neg:Int→Int
 clamp:Int→Int
structure St where
 holds:List (Int × Int)
 out:List (ByteArray × Int)
 steps:Nat
 over:Bool
def reg (r:List Int)(a:Int):Int:=(r[a.toNat]?).getD 0
def setReg (r:List Int)(a v:Int):List Int:=r.set a.toNat v
def zeros:List Int:=List.replicate 256 0
inductive Act where
 |stop
 |next (at':Int) (f:Int) (r:List Int)
 |pay
 |hold
 |call (entry:Int)
def jumps (E:Env)(x:Ix)(b:Int):Bool:=
 if x.op=20 then true else if x.op=19 then decide (b=0) else if x.op=21 then decide (x.n<E.day) else if x.op=22 then decide (E.day<x.n) else false
def act (c:Cd)(E:Env)(x:Ix)(a f:Int)(r:List Int):Act:=
 if x.op=30 then .stop
 else if x.op=1 then .next (a+1) f (setReg r x.a x.n)
 else if x.op=3 then .next (a+1) f (setReg r x.a (E.now x.n))
 else if x.op=2 then(match E.feed x.s x.n with|none=>.next x.to f r|some n=>.next (a+1) f (setReg r x.a n))
 else if x.op=20∨x.op=19∨x.op=21∨x.op=22 then .next (if jumps E x (reg r x.b) then x.to else a+1) f r
 else if x.op=23 then .next (a+1) (E.mul f (reg r x.b)) r
 else if x.op=24 then .next (a+1) (E.neg f) r
 else if x.op=25 then .next (a+1) f (setReg r x.a f)
 else if x.op=26 then .next (a+1) (E.clamp (reg r x.b)) r
 else if x.op=27 then(if f=0 then .next (a+1) f r else .pay)
 else if x.op=28 then .hold
 else if x.op=29 then .call (zbt c x.n)
 else .next (a+1) f (setReg r x.a (E.rk x.op (reg r x.b) (reg r x.c)))
def insAt (c:Cd)(a:Int):Ix:=(c.ins[a.toNat]?).getD ⟨30,0,0,0,0,⟨#[]⟩,0⟩
def runF (c:Cd)(E:Env):Nat→Int→Int→List Int→St→St
 |0,_,_,_,st=>⟨st.holds,st.out,st.steps+1,true⟩
 |k+1,a,f,r,st=>
  if 65536<st.steps+1∨st.over=true then ⟨st.holds,st.out,st.steps+1,true⟩
  else match act c E (insAt c a) a f r with
   | .stop=>⟨st.holds,st.out,st.steps+1,false⟩
   | .next a' f' r'=>runF c E k a' f' r' ⟨st.holds,st.out,st.steps+1,false⟩
   | .pay=>runF c E k (a+1) f r ⟨st.holds,st.out++[((insAt c a).s,f)],st.steps+1,false⟩
   | .hold=>runF c E k (a+1) f r ⟨st.holds++[((insAt c a).n,f)],st.out,st.steps+1,decide (250<st.holds.length+1)⟩
   | .call e=>runF c E k (a+1) f r (runF c E k e f zeros ⟨st.holds,st.out,st.steps+1,false⟩)
theorem qbs (c:Cd)(E:Env):∀(k:Nat) (a f:Int) (r:List Int) (st:St),st.steps+1≤(runF c E k a f r st).steps:=by
 intro k
 induction k with
 |zero=>intro a f r st; exact Nat.le_refl _
 |succ k ih=>
  intro a f r st
  unfold runF
  split
  ·exact Nat.le_refl _
  ·split
   ·exact Nat.le_refl _
   ·refine Nat.le_trans ?_ (ih _ _ _ _)
    simp only; omega
   ·refine Nat.le_trans ?_ (ih _ _ _ _)
    simp only; omega
   ·refine Nat.le_trans ?_ (ih _ _ _ _)
    simp only; omega
   ·rename_i e _
    have h1:=ih e f zeros ⟨st.holds,st.out,st.steps+1,false⟩
    have h2:=ih (a+1) f r (runF c E k e f zeros ⟨st.holds,st.out,st.steps+1,false⟩)
    simp only at h1
    omega
theorem qet (c:Cd)(E:Env):∀(k k':Nat) (a f:Int) (r:List Int) (st:St),65538≤k+st.steps→65538≤k'+st.steps→runF c E k a f r st=runF c E k' a f r st:=by
 intro k
 induction k with
 |zero=>
  intro k' a f r st h h'
  cases k' with
  |zero=>rfl
  |succ k'=>rw[runF,runF,if_pos (.inl (by omega))]
 |succ k ih=>
  intro k' a f r st h h'
  cases k' with
  |zero=>rw[runF,runF,if_pos (.inl (by omega))]
  |succ k'=>
   rw[runF,runF]
   split
   ·rfl
   ·split
    ·rfl
    ·exact ih k' _ _ _ _ (by simp only; omega) (by simp only; omega)
    ·exact ih k' _ _ _ _ (by simp only; omega) (by simp only; omega)
    ·exact ih k' _ _ _ _ (by simp only; omega) (by simp only; omega)
    ·rename_i e _
     have h1:=qbs c E k' e f zeros ⟨st.holds,st.out,st.steps+1,false⟩
     simp only at h1
     rw[ih k' e f zeros ⟨st.holds,st.out,st.steps+1,false⟩ (by simp only; omega) (by simp only; omega)]
     exact ih k' _ _ _ _ (by omega) (by omega)
def run (c:Cd)(E:Env)(a f:Int)(r:List Int)(st:St):St:=runF c E (65538 - st.steps) a f r st
theorem zgs (c:Cd)(E:Env){k:Nat}{a f:Int}{r:List Int}{st:St}(h:65538≤k+st.steps):runF c E k a f r st=run c E a f r st:=
 qet c E k _ a f r st h (by omega)
theorem run_step (c:Cd)(E:Env)(a f:Int)(r:List Int)(st:St):run c E a f r st =
  if 65536<st.steps+1∨st.over=true then ⟨st.holds,st.out,st.steps+1,true⟩
  else match act c E (insAt c a) a f r with
   | .stop=>⟨st.holds,st.out,st.steps+1,false⟩
   | .next a' f' r'=>run c E a' f' r' ⟨st.holds,st.out,st.steps+1,false⟩
   | .pay=>run c E (a+1) f r ⟨st.holds,st.out++[((insAt c a).s,f)],st.steps+1,false⟩
   | .hold=>run c E (a+1) f r ⟨st.holds++[((insAt c a).n,f)],st.out,st.steps+1,decide (250<st.holds.length+1)⟩
   | .call e=>run c E (a+1) f r (run c E e f zeros ⟨st.holds,st.out,st.steps+1,false⟩):=by
 rw[←zgs c E (k:=65538+1) (by omega)]
 rw[runF]
 split
 ·rfl
 ·split
  ·rfl
  ·exact zgs c E (by omega)
  ·exact zgs c E (by omega)
  ·exact zgs c E (by omega)
  ·rw[zgs c E (by omega),zgs c E (by omega)]
def all (c:Cd)(E:Env)(entry:Int→Int)(l:List (Int × Int))(st:St):St:=l.foldl (fun st h=>run c E (entry h.1) h.2 zeros st) st
def st0:St:=⟨[],[],0,false⟩
end Vm
end
end Go.Proofs.YtanlmbbalamgkaaGreatDoor
