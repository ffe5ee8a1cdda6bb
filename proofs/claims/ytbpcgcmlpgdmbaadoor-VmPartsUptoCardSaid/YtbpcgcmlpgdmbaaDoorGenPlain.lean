/- Proved: bytecodes in plain words: which are right, their bytes, and that these are read back. No program in sight. -/
import Derived.Test.YtbpcgcmlpgdmbaaDoorLedgerPlain
namespace Go.Proofs.YtbpcgcmlpgdmbaaDoor
set_option linter.unusedVariables false
set_option linter.unusedSimpArgs false
namespace Gen
open Wire
structure Wt where
  entry : Int
  day : Int
  label : ByteArray
  first : Int
  second : Int
structure Ix where
  op : Int
  a : Int
  b : Int
  c : Int
  n : Int
  s : ByteArray
  to : Int
structure Cd where
  regs : Int
  waits : List Wt
  ins : List Ix
/-- Which registers an operation uses, and whether it goes elsewhere. -/
def useA (op : Int) : Bool := decide (1 ≤ op) && decide (op ≤ 18) || decide (op = 25)
def useB (op : Int) : Bool := decide (4 ≤ op) && decide (op ≤ 19) || (decide (op = 23) || decide (op = 26))
def useC (op : Int) : Bool := decide (5 ≤ op) && decide (op ≤ 11) || decide (13 ≤ op) && decide (op ≤ 17)
def useT (op : Int) : Bool := decide (op = 2) || decide (19 ≤ op) && decide (op ≤ 22)
def fld (used : Bool) (r regs : Int) : Bool := if used then decide (0 ≤ r) && decide (r < regs) else decide (r = 0)
def within (n low high : Int) : Bool := decide (low ≤ n) && decide (n ≤ high)
def entryAt (c : Cd) (n : Int) : Int := match c.waits[n.toNat]? with | some w => w.entry | none => 0
def numOk (c : Cd) (at' : Int) (x : Ix) : Bool :=
  if x.op = 1 then within x.n (-1000000000000000) 1000000000000000
  else if x.op = 2 ∨ x.op = 3 then within x.n 0 3660
  else if x.op = 21 ∨ x.op = 22 then within x.n 0 73048
  else if x.op = 28 then within x.n 0 (c.waits.length - 1)
  else if x.op = 29 then within x.n 0 (c.waits.length - 1) && decide (at' < entryAt c x.n)
  else decide (x.n = 0)
def textOk (x : Ix) : Bool := if x.op = 2 then Led.isName x.s else if x.op = 27 then Led.isCur x.s else decide (x.s = ⟨#[]⟩)
def toOk (c : Cd) (at' : Int) (x : Ix) : Bool := if useT x.op then decide (at' < x.to) && decide (x.to < c.ins.length) else decide (x.to = 0)
def insOk (c : Cd) (at' : Int) (x : Ix) : Bool :=
  decide (1 ≤ x.op) && (decide (x.op ≤ 30) && (fld (useA x.op) x.a c.regs && (fld (useB x.op) x.b c.regs && (fld (useC x.op) x.c c.regs && (toOk c at' x && (numOk c at' x && textOk x))))))
def place (c : Cd) (n : Int) : Bool := decide (0 ≤ n) && decide (n < c.ins.length)
def waitOk (c : Cd) (w : Wt) : Bool :=
  place c w.entry && (within w.day 0 73048 && (if w.label = ⟨#[]⟩ then decide (w.first = 0) && decide (w.second = 0) else Led.isName w.label && (place c w.first && place c w.second)))
def lastOp (l : List Ix) : Int := match l.getLast? with | some x => x.op | none => 0
def right (c : Cd) : Bool :=
  within c.regs 0 256 && (decide (c.waits.length ≤ 250) && (decide (1 ≤ c.ins.length) && (decide (c.ins.length ≤ 16384) && (decide (lastOp c.ins = 30) && (c.waits.all (waitOk c) && (c.ins.zipIdx.all fun p => insOk c (p.2 : Int) p.1))))))
def encW (w : Wt) : List UInt8 := putInt w.entry ++ (putInt w.day ++ (putText w.label.data.toList ++ (putInt w.first ++ putInt w.second)))
def encI (x : Ix) : List UInt8 := putInt x.op ++ (putInt x.a ++ (putInt x.b ++ (putInt x.c ++ (putInt x.n ++ (putText x.s.data.toList ++ putInt x.to)))))
def enc (c : Cd) : List UInt8 := putInt c.regs ++ (putInt c.waits.length ++ (c.waits.flatMap encW ++ (putInt c.ins.length ++ c.ins.flatMap encI)))
/-- A reader: what it reads and where it stands then, or where nothing could be read. -/
abbrev Rd (α : Type) := List UInt8 → Nat → Except Nat (α × Nat)
def rt {α : Type} (a : α) : Rd α := fun _ k => .ok (a, k)
def bnd {α β : Type} (p : Rd α) (f : α → Rd β) : Rd β := fun l k => match p l k with | .error e => .error e | .ok (a, m) => f a l m
def rdI : Rd Int := fun l k => match takeInt l k with | none => .error k | some (n, m) => .ok (n, m)
def rdS : Rd ByteArray := fun l k => match takeText l k 24 with | none => .error k | some (s, m) => .ok (⟨s.toArray⟩, m)
def rdN (most : Nat) : Rd Nat := fun l k => match takeInt l k with | none => .error k | some (n, m) => if n < 0 ∨ (most : Int) < n then .error k else .ok (n.toNat, m)
def rdMany {α : Type} (p : Rd α) : Nat → Rd (List α)
  | 0 => rt []
  | n + 1 => bnd p fun a => bnd (rdMany p n) fun t => rt (a :: t)
def rdW : Rd Wt := bnd rdI fun e => bnd rdI fun d => bnd rdS fun s => bnd rdI fun f => bnd rdI fun g => rt ⟨e, d, s, f, g⟩
def rdX : Rd Ix := bnd rdI fun o => bnd rdI fun a => bnd rdI fun b => bnd rdI fun c => bnd rdI fun n => bnd rdS fun s => bnd rdI fun t => rt ⟨o, a, b, c, n, s, t⟩
def rdC : Rd Cd := bnd rdI fun r => bnd (rdN 250) fun n => bnd (rdMany rdW n) fun w => bnd (rdN 16384) fun m => bnd (rdMany rdX m) fun i => rt ⟨r, w, i⟩
def cd0 : Cd := ⟨0, [], []⟩
/-- What bytes are read as: the bytecode, the place, the number of the fault. -/
def dec (byteErr formErr : Int) (l : List UInt8) : Cd × Nat × Int :=
  match rdC l 0 with
  | .error k => (cd0, k, byteErr)
  | .ok (c, k) => if k < l.length then (cd0, k, byteErr) else if right c = true then (c, 0, 0) else (cd0, 0, formErr)
/-- A reader reads what was written. -/
def Put {α : Type} (p : Rd α) (e : List UInt8) (a : α) : Prop := ∀ pre rest, p (pre ++ e ++ rest) pre.length = .ok (a, pre.length + e.length)
theorem Put.ret {α : Type} (a : α) : Put (rt a) [] a := fun pre rest => by simp [rt]
theorem Put.andThen {α β : Type} {p : Rd α} {f : α → Rd β} {e e' : List UInt8} {a : α} {b : β} (h : Put p e a) (h' : Put (f a) e' b) : Put (bnd p f) (e ++ e') b := by
  intro pre rest
  unfold bnd
  have h1 := h pre (e' ++ rest)
  have h2 := h' (pre ++ e) rest
  rw [show pre ++ (e ++ e') ++ rest = pre ++ e ++ (e' ++ rest) by simp, h1]
  simp only
  rw [show pre ++ e ++ (e' ++ rest) = pre ++ e ++ e' ++ rest by simp, show pre.length + e.length = (pre ++ e).length by simp, h2]
  simp [Nat.add_assoc]
theorem Put.int (n : Int) (h : -9223372036854775808 ≤ n) (h' : n ≤ 9223372036854775807) : Put rdI (putInt n) n := fun pre rest => by
  unfold rdI; rw [takeInt_put n h h' pre rest]
theorem Put.text (s : ByteArray) (h : s.size ≤ 24) : Put rdS (putText s.data.toList) s := fun pre rest => by
  have hs : s.data.toList.length = s.size := Array.length_toList
  unfold rdS; rw [takeText_put _ pre rest 24 (by omega) (by omega)]
theorem Put.count (n most : Nat) (h : n ≤ most) (hm : most ≤ 100000) : Put (rdN most) (putInt n) n := fun pre rest => by
  unfold rdN; rw [takeInt_put _ (by omega) (by omega) pre rest]
  simp only
  rw [if_neg (by omega), Int.toNat_natCast]
theorem Put.many {α : Type} {p : Rd α} {e : α → List UInt8} : ∀ (l : List α), (∀ a ∈ l, Put p (e a) a) → Put (rdMany p l.length) (l.flatMap e) l
  | [], _ => Put.ret _
  | a :: t, h => by
    have h1 := h a (List.mem_cons_self ..)
    have h2 := Put.many t (fun x hx => h x (List.mem_cons_of_mem _ hx))
    have h3 := h1.andThen (f := fun a => bnd (rdMany p t.length) fun t => rt (a :: t)) (h2.andThen (f := fun t => rt (a :: t)) (Put.ret (a :: t)))
    rw [List.append_nil] at h3
    exact h3
structure Small (n : Int) : Prop where
  lo : -9223372036854775808 ≤ n
  hi : n ≤ 9223372036854775807
theorem Put.wait (w : Wt) (h1 : Small w.entry) (h2 : Small w.day) (h3 : w.label.size ≤ 24) (h4 : Small w.first) (h5 : Small w.second) : Put rdW (encW w) w := by
  have := (Put.int _ h1.lo h1.hi).andThen (f := fun e => bnd rdI fun d => bnd rdS fun s => bnd rdI fun f => bnd rdI fun g => rt (⟨e, d, s, f, g⟩ : Wt)) ((Put.int _ h2.lo h2.hi).andThen (f := fun d => bnd rdS fun s => bnd rdI fun f => bnd rdI fun g => rt (⟨w.entry, d, s, f, g⟩ : Wt)) ((Put.text _ h3).andThen (f := fun s => bnd rdI fun f => bnd rdI fun g => rt (⟨w.entry, w.day, s, f, g⟩ : Wt)) ((Put.int _ h4.lo h4.hi).andThen (f := fun f => bnd rdI fun g => rt (⟨w.entry, w.day, w.label, f, g⟩ : Wt)) ((Put.int _ h5.lo h5.hi).andThen (f := fun g => rt (⟨w.entry, w.day, w.label, w.first, g⟩ : Wt)) (Put.ret w)))))
  rw [List.append_nil] at this
  exact this
theorem Put.ins (x : Ix) (h1 : Small x.op) (h2 : Small x.a) (h3 : Small x.b) (h4 : Small x.c) (h5 : Small x.n) (h6 : x.s.size ≤ 24) (h7 : Small x.to) : Put rdX (encI x) x := by
  have := (Put.int _ h1.lo h1.hi).andThen (f := fun o => bnd rdI fun a => bnd rdI fun b => bnd rdI fun c => bnd rdI fun n => bnd rdS fun s => bnd rdI fun t => rt (⟨o, a, b, c, n, s, t⟩ : Ix)) ((Put.int _ h2.lo h2.hi).andThen (f := fun a => bnd rdI fun b => bnd rdI fun c => bnd rdI fun n => bnd rdS fun s => bnd rdI fun t => rt (⟨x.op, a, b, c, n, s, t⟩ : Ix)) ((Put.int _ h3.lo h3.hi).andThen (f := fun b => bnd rdI fun c => bnd rdI fun n => bnd rdS fun s => bnd rdI fun t => rt (⟨x.op, x.a, b, c, n, s, t⟩ : Ix)) ((Put.int _ h4.lo h4.hi).andThen (f := fun c => bnd rdI fun n => bnd rdS fun s => bnd rdI fun t => rt (⟨x.op, x.a, x.b, c, n, s, t⟩ : Ix)) ((Put.int _ h5.lo h5.hi).andThen (f := fun n => bnd rdS fun s => bnd rdI fun t => rt (⟨x.op, x.a, x.b, x.c, n, s, t⟩ : Ix)) ((Put.text _ h6).andThen (f := fun s => bnd rdI fun t => rt (⟨x.op, x.a, x.b, x.c, x.n, s, t⟩ : Ix)) ((Put.int _ h7.lo h7.hi).andThen (f := fun t => rt (⟨x.op, x.a, x.b, x.c, x.n, x.s, t⟩ : Ix)) (Put.ret x)))))))
  rw [List.append_nil] at this
  exact this
/-- What was read stands in the bytes. -/
def Sp (l : List UInt8) (k : Nat) (e : List UInt8) (m : Nat) : Prop := l.drop k = e ++ l.drop m ∧ m = k + e.length
theorem Sp.nil (l : List UInt8) (k : Nat) : Sp l k [] k := ⟨rfl, rfl⟩
theorem Sp.trans {l : List UInt8} {k m j : Nat} {e e' : List UInt8} (h : Sp l k e m) (h' : Sp l m e' j) : Sp l k (e ++ e') j := by
  refine ⟨by rw [h.1, h'.1, List.append_assoc], by rw [h'.2, h.2, List.length_append, Nat.add_assoc]⟩
theorem bnd_back {α β : Type} {p : Rd α} {f : α → Rd β} {l : List UInt8} {k m : Nat} {b : β} (h : bnd p f l k = .ok (b, m)) : ∃ a j, p l k = .ok (a, j) ∧ f a l j = .ok (b, m) := by
  unfold bnd at h
  split at h
  · cases h
  · rename_i a j hp
    exact ⟨a, j, hp, h⟩
theorem rdI_back {l : List UInt8} {k m : Nat} {n : Int} (h : rdI l k = .ok (n, m)) : Sp l k (putInt n) m ∧ Small n := by
  unfold rdI at h
  split at h
  · cases h
  · rename_i n' m' ht
    obtain ⟨rfl, rfl⟩ : n' = n ∧ m' = m := by simpa using h
    obtain ⟨rest, h1, h2, h3, h4, _⟩ := takeInt_back ht
    exact ⟨⟨by rw [h2, ← List.drop_drop, h1, List.drop_left], h2⟩, ⟨h3, h4⟩⟩
theorem rdN_back {most : Nat} {l : List UInt8} {k m : Nat} {n : Nat} (h : rdN most l k = .ok (n, m)) : Sp l k (putInt n) m ∧ n ≤ most := by
  unfold rdN at h
  split at h
  · cases h
  · rename_i n' m' ht
    split at h
    · cases h
    · rename_i hn
      obtain ⟨e, rfl⟩ : n'.toNat = n ∧ m' = m := by simpa using h
      obtain ⟨rest, h1, h2, h3, h4, _⟩ := takeInt_back ht
      have e2 : ((n : Nat) : Int) = n' := by omega
      rw [e2]
      exact ⟨⟨by rw [h2, ← List.drop_drop, h1, List.drop_left], h2⟩, by omega⟩
theorem rdS_back {l : List UInt8} {k m : Nat} {s : ByteArray} (h : rdS l k = .ok (s, m)) : Sp l k (putText s.data.toList) m ∧ s.size ≤ 24 := by
  unfold rdS at h
  split at h
  · cases h
  · rename_i s' m' ht
    obtain ⟨rfl, rfl⟩ : (⟨s'.toArray⟩ : ByteArray) = s ∧ m' = m := by simpa using h
    obtain ⟨rest, h1, h2, h3, _⟩ := takeText_back ht
    exact ⟨⟨by rw [h2, ← List.drop_drop, h1, List.drop_left], h2⟩, by show s'.toArray.size ≤ 24; simpa using h3⟩
theorem rdMany_back {α : Type} {p : Rd α} {e : α → List UInt8} {R : α → Prop} (hp : ∀ l k a m, p l k = .ok (a, m) → Sp l k (e a) m ∧ R a) : ∀ (n : Nat) (l : List UInt8) (k m : Nat) (as : List α), rdMany p n l k = .ok (as, m) → Sp l k (as.flatMap e) m ∧ as.length = n ∧ ∀ a ∈ as, R a
  | 0, l, k, m, as, h => by
    obtain ⟨rfl, rfl⟩ : [] = as ∧ k = m := by simpa [rdMany, rt] using h
    exact ⟨Sp.nil _ _, rfl, fun a ha => by cases ha⟩
  | n + 1, l, k, m, as, h => by
    obtain ⟨a, j, h1, h2⟩ := bnd_back h
    obtain ⟨t, i, h3, h4⟩ := bnd_back h2
    obtain ⟨rfl, rfl⟩ : a :: t = as ∧ i = m := by simpa [rt] using h4
    obtain ⟨s1, r1⟩ := hp _ _ _ _ h1
    obtain ⟨s2, hl, r2⟩ := rdMany_back hp n l j i t h3
    exact ⟨s1.trans s2, by rw [List.length_cons, hl], fun x hx => by
      rcases List.mem_cons.1 hx with rfl | hx
      · exact r1
      · exact r2 x hx⟩
theorem rdW_back {l : List UInt8} {k m : Nat} {w : Wt} (h : rdW l k = .ok (w, m)) : Sp l k (encW w) m ∧ True := by
  obtain ⟨e, j1, h1, h⟩ := bnd_back h
  obtain ⟨d, j2, h2, h⟩ := bnd_back h
  obtain ⟨s, j3, h3, h⟩ := bnd_back h
  obtain ⟨f, j4, h4, h⟩ := bnd_back h
  obtain ⟨g, j5, h5, h⟩ := bnd_back h
  obtain ⟨rfl, rfl⟩ : (⟨e, d, s, f, g⟩ : Wt) = w ∧ j5 = m := by simpa [rt] using h
  exact ⟨(rdI_back h1).1.trans ((rdI_back h2).1.trans ((rdS_back h3).1.trans ((rdI_back h4).1.trans (rdI_back h5).1))), trivial⟩
theorem rdX_back {l : List UInt8} {k m : Nat} {x : Ix} (h : rdX l k = .ok (x, m)) : Sp l k (encI x) m ∧ True := by
  obtain ⟨o, j1, h1, h⟩ := bnd_back h
  obtain ⟨a, j2, h2, h⟩ := bnd_back h
  obtain ⟨b, j3, h3, h⟩ := bnd_back h
  obtain ⟨c, j4, h4, h⟩ := bnd_back h
  obtain ⟨n, j5, h5, h⟩ := bnd_back h
  obtain ⟨s, j6, h6, h⟩ := bnd_back h
  obtain ⟨t, j7, h7, h⟩ := bnd_back h
  obtain ⟨rfl, rfl⟩ : (⟨o, a, b, c, n, s, t⟩ : Ix) = x ∧ j7 = m := by simpa [rt] using h
  exact ⟨(rdI_back h1).1.trans ((rdI_back h2).1.trans ((rdI_back h3).1.trans ((rdI_back h4).1.trans ((rdI_back h5).1.trans ((rdS_back h6).1.trans (rdI_back h7).1))))), trivial⟩
/-- What was read is written so again. -/
theorem enc_dec {l : List UInt8} {c : Cd} {k : Nat} (h : rdC l 0 = .ok (c, k)) (hk : ¬ k < l.length) : enc c = l := by
  obtain ⟨r, j1, h1, h⟩ := bnd_back h
  obtain ⟨n, j2, h2, h⟩ := bnd_back h
  obtain ⟨w, j3, h3, h⟩ := bnd_back h
  obtain ⟨m, j4, h4, h⟩ := bnd_back h
  obtain ⟨i, j5, h5, h⟩ := bnd_back h
  obtain ⟨rfl, rfl⟩ : (⟨r, w, i⟩ : Cd) = c ∧ j5 = k := by simpa [rt] using h
  obtain ⟨s3, hw, _⟩ := rdMany_back (R := fun _ => True) (fun l k a m => rdW_back) n l j2 j3 w h3
  obtain ⟨s5, hi, _⟩ := rdMany_back (R := fun _ => True) (fun l k a m => rdX_back) m l j4 j5 i h5
  have s2 := (rdN_back h2).1
  have s4 := (rdN_back h4).1
  rw [← hw] at s2
  rw [← hi] at s4
  have s := (rdI_back h1).1.trans (s2.trans (s3.trans (s4.trans s5)))
  have e := s.1
  rw [List.drop_zero, List.drop_of_length_le (by omega), List.append_nil] at e
  exact e.symm
/-- What is right, in parts. -/
theorem right_parts {c : Cd} (h : right c = true) : (0 ≤ c.regs ∧ c.regs ≤ 256) ∧ c.waits.length ≤ 250 ∧ 1 ≤ c.ins.length ∧ c.ins.length ≤ 16384 ∧ lastOp c.ins = 30 ∧ (∀ w ∈ c.waits, waitOk c w = true) ∧ ∀ (i : Nat) x, c.ins[i]? = some x → insOk c (i : Int) x = true := by
  unfold right within at h
  simp only [Bool.and_eq_true, decide_eq_true_eq, List.all_eq_true] at h
  obtain ⟨h1, h2, h3, h4, h5, h6, h7⟩ := h
  refine ⟨h1, h2, h3, h4, h5, h6, fun i x hx => ?_⟩
  refine h7 (x, i) ?_
  rw [List.mem_iff_getElem?]
  exact ⟨i, by rw [List.getElem?_zipIdx, hx]; simp⟩
theorem fld_small {u : Bool} {r regs : Int} (h : fld u r regs = true) (hr : regs ≤ 256) : Small r := by
  unfold fld at h
  split at h
  · simp only [Bool.and_eq_true, decide_eq_true_eq] at h; exact ⟨by omega, by omega⟩
  · simp only [decide_eq_true_eq] at h; exact ⟨by omega, by omega⟩
theorem cur_len {s : ByteArray} (h : Led.isCur s = true) : s.size ≤ 24 := by
  unfold Led.isCur at h
  simp only [Bool.and_eq_true, decide_eq_true_eq] at h
  omega
theorem ins_small {c : Cd} {i : Int} {x : Ix} (h : insOk c i x = true) (hr : c.regs ≤ 256) (hw : c.waits.length ≤ 250) (hi : c.ins.length ≤ 16384) (h0 : 0 ≤ i) : Small x.op ∧ Small x.a ∧ Small x.b ∧ Small x.c ∧ Small x.n ∧ x.s.size ≤ 24 ∧ Small x.to := by
  unfold insOk at h
  simp only [Bool.and_eq_true, decide_eq_true_eq] at h
  obtain ⟨h1, h2, h3, h4, h5, h6, h7, h8⟩ := h
  refine ⟨⟨by omega, by omega⟩, fld_small h3 hr, fld_small h4 hr, fld_small h5 hr, ?_, ?_, ?_⟩
  · unfold numOk within at h7
    repeat' split at h7
    all_goals simp only [Bool.and_eq_true, decide_eq_true_eq] at h7
    all_goals exact ⟨by omega, by omega⟩
  · unfold textOk at h8
    repeat' split at h8
    · exact Led.name_len h8
    · exact cur_len h8
    · rw [of_decide_eq_true h8]; decide
  · unfold toOk at h6
    split at h6
    · simp only [Bool.and_eq_true, decide_eq_true_eq] at h6; exact ⟨by omega, by omega⟩
    · simp only [decide_eq_true_eq] at h6; exact ⟨by omega, by omega⟩
theorem wait_small {c : Cd} {w : Wt} (h : waitOk c w = true) (hi : c.ins.length ≤ 16384) : Small w.entry ∧ Small w.day ∧ w.label.size ≤ 24 ∧ Small w.first ∧ Small w.second := by
  unfold waitOk place within at h
  simp only [Bool.and_eq_true, decide_eq_true_eq] at h
  obtain ⟨h1, h2, h3⟩ := h
  refine ⟨⟨by omega, by omega⟩, ⟨by omega, by omega⟩, ?_⟩
  split at h3
  · rename_i e
    simp only [Bool.and_eq_true, decide_eq_true_eq] at h3
    rw [e]
    exact ⟨by decide, ⟨by omega, by omega⟩, ⟨by omega, by omega⟩⟩
  · simp only [Bool.and_eq_true, decide_eq_true_eq] at h3
    exact ⟨Led.name_len h3.1, ⟨by omega, by omega⟩, ⟨by omega, by omega⟩⟩
/-- What was written is read as it was. -/
theorem rd_enc {c : Cd} (h : right c = true) : rdC (enc c) 0 = .ok (c, (enc c).length) := by
  obtain ⟨h1, h2, h3, h4, h5, h6, h7⟩ := right_parts h
  have pw := Put.many (p := rdW) (e := encW) c.waits (fun w hw => by
    obtain ⟨a1, a2, a3, a4, a5⟩ := wait_small (h6 w hw) h4
    exact Put.wait w a1 a2 a3 a4 a5)
  have pi := Put.many (p := rdX) (e := encI) c.ins (fun x hx => by
    obtain ⟨i, hi⟩ := List.getElem?_of_mem hx
    obtain ⟨a1, a2, a3, a4, a5, a6, a7⟩ := ins_small (h7 i x hi) h1.2 h2 h4 (by omega)
    exact Put.ins x a1 a2 a3 a4 a5 a6 a7)
  have p := (Put.int c.regs (by omega) (by omega)).andThen (f := fun r => bnd (rdN 250) fun n => bnd (rdMany rdW n) fun w => bnd (rdN 16384) fun m => bnd (rdMany rdX m) fun i => rt (⟨r, w, i⟩ : Cd))
    ((Put.count c.waits.length 250 h2 (by omega)).andThen (f := fun n => bnd (rdMany rdW n) fun w => bnd (rdN 16384) fun m => bnd (rdMany rdX m) fun i => rt (⟨c.regs, w, i⟩ : Cd))
      (pw.andThen (f := fun w => bnd (rdN 16384) fun m => bnd (rdMany rdX m) fun i => rt (⟨c.regs, w, i⟩ : Cd))
        ((Put.count c.ins.length 16384 h4 (by omega)).andThen (f := fun m => bnd (rdMany rdX m) fun i => rt (⟨c.regs, c.waits, i⟩ : Cd))
          (pi.andThen (f := fun i => rt (⟨c.regs, c.waits, i⟩ : Cd)) (Put.ret c)))))
  rw [List.append_nil] at p
  have := p [] []
  simp only [List.nil_append, List.append_nil, List.length_nil, Nat.zero_add] at this
  exact this
theorem dec_enc {byteErr formErr : Int} {c : Cd} (h : right c = true) : dec byteErr formErr (enc c) = (c, 0, 0) := by
  unfold dec
  rw [rd_enc h]
  simp only [Nat.lt_irrefl, if_false, h, if_true]
theorem dec_back {byteErr formErr : Int} {l : List UInt8} {c : Cd} {k : Nat} (h : dec byteErr formErr l = (c, k, 0)) (hb : byteErr ≠ 0) (hf : formErr ≠ 0) : right c = true ∧ enc c = l := by
  unfold dec at h
  split at h
  · simp only [Prod.mk.injEq] at h; exact absurd h.2.2 hb
  · rename_i c' k' hr
    split at h
    · simp only [Prod.mk.injEq] at h; exact absurd h.2.2 hb
    · rename_i hk
      split at h
      · rename_i hrt
        simp only [Prod.mk.injEq] at h
        obtain ⟨rfl, _⟩ := h
        exact ⟨hrt, enc_dec hr hk⟩
      · simp only [Prod.mk.injEq] at h; exact absurd h.2.2 hf
end Gen
end Go.Proofs.YtbpcgcmlpgdmbaaDoor
