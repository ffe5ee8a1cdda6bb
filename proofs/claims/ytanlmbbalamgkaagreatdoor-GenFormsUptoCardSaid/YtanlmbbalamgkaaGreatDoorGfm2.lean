/- Proved: lemmas and contracts of the functions that the law reaches, part 2 of 31: LedgerPlain, GenPlain, VmPlain. Conditions: as each states. -/
import Derived.Lib.Bytealg
import Derived.Test.YtanlmbbalamgkaaGreatDoorGfm1
namespace Go.Proofs.YtanlmbbalamgkaaGreatDoor
set_option linter.unusedVariables false
set_option linter.unusedSimpArgs false
section
namespace Wire
end Wire
namespace Led
open Wire
def nameB (c : UInt8) : Bool := (97 ≤ c.toNat && c.toNat ≤ 122) || (48 ≤ c.toNat && c.toNat ≤ 57) || c.toNat == 95
def curB (c : UInt8) : Bool := 65 ≤ c.toNat && c.toNat ≤ 90
def lowB (c : UInt8) : Bool := 97 ≤ c.toNat && c.toNat ≤ 122
def isName (s : ByteArray) : Bool :=
 match s.data.toList with
 | [] => false
 | c :: t => decide (t.length + 1 ≤ 24) && (lowB c && (c :: t).all nameB)
def isCur (s : ByteArray) : Bool := decide (s.size = 3) && s.data.toList.all curB
theorem name_len {s : ByteArray} (h : isName s = true) : s.size ≤ 24 := by
 have e : s.data.toList.length = s.size := Array.length_toList
 unfold isName at h
 cases hl : s.data.toList with
 | nil => rw [hl] at e; simp at e; omega
 | cons c t =>
   rw [hl] at h e
   simp only [Bool.and_eq_true, decide_eq_true_eq] at h
   simp at e; omega
end Led
end
section
namespace Gen
open Wire
structure Wt where
 entry : Int
 day : Int
 label : ByteArray
 first : Int
 second : Int
structure Ix where
 op : Int
 a : Int
 b : Int
 c : Int
 n : Int
 s : ByteArray
 to : Int
structure Cd where
 regs : Int
 waits : List Wt
 ins : List Ix
def useA (op : Int) : Bool := decide (1 ≤ op) && decide (op ≤ 18) || decide (op = 25)
def useB (op : Int) : Bool := decide (4 ≤ op) && decide (op ≤ 19) || (decide (op = 23) || decide (op = 26))
def useC (op : Int) : Bool := decide (5 ≤ op) && decide (op ≤ 11) || decide (13 ≤ op) && decide (op ≤ 17)
def useT (op : Int) : Bool := decide (op = 2) || decide (19 ≤ op) && decide (op ≤ 22)
def fld (used : Bool) (r regs : Int) : Bool := if used then decide (0 ≤ r) && decide (r < regs) else decide (r = 0)
def within (n low high : Int) : Bool := decide (low ≤ n) && decide (n ≤ high)
def entryAt (c : Cd) (n : Int) : Int := match c.waits[n.toNat]? with | some w => w.entry | none => 0
def numOk (c : Cd) (at' : Int) (x : Ix) : Bool :=
 if x.op = 1 then within x.n (-1000000000000000) 1000000000000000
 else if x.op = 2 ∨ x.op = 3 then within x.n 0 3660
 else if x.op = 21 ∨ x.op = 22 then within x.n 0 73048
 else if x.op = 28 then within x.n 0 (c.waits.length - 1)
 else if x.op = 29 then within x.n 0 (c.waits.length - 1) && decide (at' < entryAt c x.n)
 else decide (x.n = 0)
def textOk (x : Ix) : Bool := if x.op = 2 then Led.isName x.s else if x.op = 27 then Led.isCur x.s else decide (x.s = ⟨#[]⟩)
def toOk (c : Cd) (at' : Int) (x : Ix) : Bool := if useT x.op then decide (at' < x.to) && decide (x.to < c.ins.length) else decide (x.to = 0)
def insOk (c : Cd) (at' : Int) (x : Ix) : Bool :=
 decide (1 ≤ x.op) && (decide (x.op ≤ 30) && (fld (useA x.op) x.a c.regs && (fld (useB x.op) x.b c.regs && (fld (useC x.op) x.c c.regs && (toOk c at' x && (numOk c at' x && textOk x))))))
def place (c : Cd) (n : Int) : Bool := decide (0 ≤ n) && decide (n < c.ins.length)
def waitOk (c : Cd) (w : Wt) : Bool :=
 place c w.entry && (within w.day 0 73048 && (if w.label = ⟨#[]⟩ then decide (w.first = 0) && decide (w.second = 0) else Led.isName w.label && (place c w.first && place c w.second)))
def lastOp (l : List Ix) : Int := match l.getLast? with | some x => x.op | none => 0
def right (c : Cd) : Bool :=
 within c.regs 0 256 && (decide (c.waits.length ≤ 250) && (decide (1 ≤ c.ins.length) && (decide (c.ins.length ≤ 16384) && (decide (lastOp c.ins = 30) && (c.waits.all (waitOk c) && (c.ins.zipIdx.all fun p => insOk c (p.2 : Int) p.1))))))
theorem right_parts {c : Cd} (h : right c = true) : (0 ≤ c.regs ∧ c.regs ≤ 256) ∧ c.waits.length ≤ 250 ∧ 1 ≤ c.ins.length ∧ c.ins.length ≤ 16384 ∧ lastOp c.ins = 30 ∧ (∀ w ∈ c.waits, waitOk c w = true) ∧ ∀ (i : Nat) x, c.ins[i]? = some x → insOk c (i : Int) x = true := by
 unfold right within at h
 simp only [Bool.and_eq_true, decide_eq_true_eq, List.all_eq_true] at h
 obtain ⟨h1, h2, h3, h4, h5, h6, h7⟩ := h
 refine ⟨h1, h2, h3, h4, h5, h6, fun i x hx => ?_⟩
 refine h7 (x, i) ?_
 rw [List.mem_iff_getElem?]
 exact ⟨i, by rw [List.getElem?_zipIdx, hx]; simp⟩
theorem cur_len {s : ByteArray} (h : Led.isCur s = true) : s.size ≤ 24 := by
 unfold Led.isCur at h
 simp only [Bool.and_eq_true, decide_eq_true_eq] at h
 omega
end Gen
end
end Go.Proofs.YtanlmbbalamgkaaGreatDoor
