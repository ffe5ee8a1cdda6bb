/- Proved: lemmas and contracts of the functions that the law reaches, part 2 of 28: LedgerPlain, GenPlain, VmPlain. Conditions: as each states. -/
import Derived.Lib.Bytealg
import Derived.Test.YtcpobnknmegkmaaGreatDoorDne1
namespace Go.Proofs.YtcpobnknmegkmaaGreatDoor
set_option linter.unusedVariables false
set_option linter.unusedSimpArgs false
namespace Wire
theorem takeText_put (s pre rest : List UInt8) (most : Nat) (h : s.length ≤ most) (h' : s.length ≤ 9223372036854775807) :
    takeText (pre ++ putText s ++ rest) pre.length most = some (s, pre.length + (putText s).length) := by
  unfold takeText putText
  rw [show pre ++ (putInt (s.length : Int) ++ s) ++ rest = pre ++ putInt (s.length : Int) ++ (s ++ rest) by simp, takeInt_put _ (by omega) (by omega)]
  simp only []
  rw [if_neg, show pre.length + (putInt (s.length : Int)).length = (pre ++ putInt (s.length : Int)).length by simp, List.drop_left, Int.toNat_natCast, List.take_left]
  · simp; omega
  · simp; omega
theorem takeText_back {l : List UInt8} {at' most next : Nat} {s : List UInt8} (h : takeText l at' most = some (s, next)) :
    ∃ rest, l.drop at' = putText s ++ rest ∧ next = at' + (putText s).length ∧ s.length ≤ most ∧ next ≤ l.length := by
  unfold takeText at h
  cases hv : takeInt l at' with
  | none => rw [hv] at h; cases h
  | some x =>
    obtain ⟨n, e⟩ := x
    rw [hv] at h
    simp only [] at h
    obtain ⟨rest, h1, h2, h3, h4, h5⟩ := takeInt_back hv
    by_cases hc : n < 0 ∨ (most : Int) < n ∨ ((l.length : Int) - (e : Int)) < n
    · rw [if_pos hc] at h; cases h
    · rw [if_neg hc] at h
      obtain ⟨e1, e2⟩ := Prod.mk.inj (Option.some.inj h)
      have hr : l.drop e = rest := by
        rw [h2, ← List.drop_drop, h1, List.drop_left]
      have hl : rest.length = l.length - e := by rw [← hr, List.length_drop]
      have hs : s.length = n.toNat := by rw [← e1, List.length_take, hr, hl]; omega
      have hn : ((s.length : Nat) : Int) = n := by omega
      refine ⟨rest.drop n.toNat, ?_, ?_, by omega, by omega⟩
      · rw [h1, putText, hn, List.append_assoc, ← e1, hr, List.take_append_drop]
      · rw [putText, hn, List.length_append]; omega
end Wire
namespace Led
open Wire
structure Leg where
  party : ByteArray
  cur : ByteArray
  amount : Int
structure Post where
  day : Int
  id : Int
  legs : List Leg
def nameB (c : UInt8) : Bool := (97 ≤ c.toNat && c.toNat ≤ 122) || (48 ≤ c.toNat && c.toNat ≤ 57) || c.toNat == 95
def curB (c : UInt8) : Bool := 65 ≤ c.toNat && c.toNat ≤ 90
def lowB (c : UInt8) : Bool := 97 ≤ c.toNat && c.toNat ≤ 122
def isName (s : ByteArray) : Bool :=
  match s.data.toList with
  | [] => false
  | c :: t => decide (t.length + 1 ≤ 24) && (lowB c && (c :: t).all nameB)
def isCur (s : ByteArray) : Bool := decide (s.size = 3) && s.data.toList.all curB
/-- Which of two accounts stands ahead: by party, then by currency. -/
def cmp (p c p' c' : ByteArray) : Int := if Lib.compareBytes p.data.toList p'.data.toList ≠ 0 then Lib.compareBytes p.data.toList p'.data.toList else Lib.compareBytes c.data.toList c'.data.toList
def legOk (x : Leg) : Bool := isName x.party && (isCur x.cur && (decide (x.amount ≠ 0) && (decide (-1000000000000000 ≤ x.amount) && decide (x.amount ≤ 1000000000000000))))
def rises (x y : Leg) : Bool := decide (cmp x.party x.cur y.party y.cur < 0)
def rising : List Leg → Bool
  | [] => true
  | [_] => true
  | x :: y :: t => rises x y && rising (y :: t)
def sumOf (c : ByteArray) : List Leg → Int
  | [] => 0
  | x :: t => (if x.cur = c then x.amount else 0) + sumOf c t
def even (l : List Leg) : Bool := l.all fun x => decide (sumOf x.cur l = 0)
def head (p : Post) : Bool := decide (0 ≤ p.day) && (decide (p.day ≤ 73048) && (decide (1 ≤ p.id) && (decide (p.id ≤ 2147483647) && (decide (2 ≤ p.legs.length) && decide (p.legs.length ≤ 64)))))
def right (p : Post) : Bool := head p && (p.legs.all legOk && (rising p.legs && even p.legs))
/-- A posting's bytes. -/
def encLeg (x : Leg) : List UInt8 := putText x.party.data.toList ++ (putText x.cur.data.toList ++ putInt x.amount)
def encLegs : List Leg → List UInt8
  | [] => []
  | x :: t => encLeg x ++ encLegs t
def enc (p : Post) : List UInt8 := putInt p.day ++ (putInt p.id ++ (putInt p.legs.length ++ encLegs p.legs))
def takeLeg (l : List UInt8) (at' : Nat) : Option (Leg × Nat) :=
  match takeText l at' 24 with
  | none => none
  | some (party, x) =>
    match takeText l x 24 with
    | none => none
    | some (cur, y) =>
      match takeInt l y with
      | none => none
      | some (amount, z) => some (⟨⟨party.toArray⟩, ⟨cur.toArray⟩, amount⟩, z)
def takeLegs : Nat → List UInt8 → Nat → Option (List Leg × Nat)
  | 0, _, at' => some ([], at')
  | k + 1, l, at' =>
    match takeLeg l at' with
    | none => none
    | some (x, z) =>
      match takeLegs k l z with
      | none => none
      | some (r, e) => some (x :: r, e)
def takeHead (l : List UInt8) : Option (Int × Int × Int × Nat) :=
  match takeInt l 0 with
  | none => none
  | some (day, a) =>
    match takeInt l a with
    | none => none
    | some (id, b) =>
      match takeInt l b with
      | none => none
      | some (n, c) => some (day, id, n, c)
def dec (l : List UInt8) : Option Post :=
  match takeHead l with
  | none => none
  | some (day, id, n, c) =>
    if n < 0 ∨ 64 < n then none
    else
      match takeLegs n.toNat l c with
      | none => none
      | some (legs, e) => if e = l.length ∧ right ⟨day, id, legs⟩ = true then some ⟨day, id, legs⟩ else none
/-- What of a leg its bytes keep. -/
structure Fits (x : Leg) : Prop where
  party : x.party.size ≤ 24
  cur : x.cur.size ≤ 24
  lo : -9223372036854775808 ≤ x.amount
  hi : x.amount ≤ 9223372036854775807
theorem ba_list (s : ByteArray) : (⟨s.data.toList.toArray⟩ : ByteArray) = s := by cases s; simp
theorem takeLeg_enc (x : Leg) (hx : Fits x) (pre rest : List UInt8) : takeLeg (pre ++ encLeg x ++ rest) pre.length = some (x, pre.length + (encLeg x).length) := by
  have h1 : x.party.data.toList.length ≤ 24 := by rw [Array.length_toList]; exact hx.party
  have h2 : x.cur.data.toList.length ≤ 24 := by rw [Array.length_toList]; exact hx.cur
  unfold takeLeg encLeg
  rw [show pre ++ (putText x.party.data.toList ++ (putText x.cur.data.toList ++ putInt x.amount)) ++ rest = pre ++ putText x.party.data.toList ++ (putText x.cur.data.toList ++ (putInt x.amount ++ rest)) by simp,
    takeText_put _ _ _ 24 h1 (by omega)]
  simp only []
  rw [show pre ++ putText x.party.data.toList ++ (putText x.cur.data.toList ++ (putInt x.amount ++ rest)) = (pre ++ putText x.party.data.toList) ++ putText x.cur.data.toList ++ (putInt x.amount ++ rest) by simp,
    show pre.length + (putText x.party.data.toList).length = (pre ++ putText x.party.data.toList).length by simp, takeText_put _ _ _ 24 h2 (by omega)]
  simp only []
  rw [show pre ++ putText x.party.data.toList ++ putText x.cur.data.toList ++ (putInt x.amount ++ rest) = (pre ++ putText x.party.data.toList ++ putText x.cur.data.toList) ++ putInt x.amount ++ rest by simp,
    show (pre ++ putText x.party.data.toList).length + (putText x.cur.data.toList).length = (pre ++ putText x.party.data.toList ++ putText x.cur.data.toList).length by simp [Nat.add_assoc], takeInt_put _ hx.lo hx.hi]
  simp only [ba_list, List.length_append, Nat.add_assoc]
theorem takeLegs_enc (legs : List Leg) (h : ∀ x ∈ legs, Fits x) : ∀ pre rest : List UInt8, takeLegs legs.length (pre ++ encLegs legs ++ rest) pre.length = some (legs, pre.length + (encLegs legs).length) := by
  induction legs with
  | nil => intro pre rest; rfl
  | cons x t ih =>
    intro pre rest
    rw [List.length_cons, takeLegs, encLegs, show pre ++ (encLeg x ++ encLegs t) ++ rest = pre ++ encLeg x ++ (encLegs t ++ rest) by simp, takeLeg_enc x (h x (by simp))]
    simp only []
    rw [show pre ++ encLeg x ++ (encLegs t ++ rest) = (pre ++ encLeg x) ++ encLegs t ++ rest by simp, show pre.length + (encLeg x).length = (pre ++ encLeg x).length by simp, ih (fun y hy => h y (by simp [hy]))]
    simp only [List.length_append]
    congr 2; omega
theorem takeLeg_back {l : List UInt8} {at' z : Nat} {x : Leg} (h : takeLeg l at' = some (x, z)) :
    ∃ rest, l.drop at' = encLeg x ++ rest ∧ z = at' + (encLeg x).length ∧ z ≤ l.length ∧ Fits x := by
  unfold takeLeg at h
  cases h1 : takeText l at' 24 with
  | none => rw [h1] at h; cases h
  | some a =>
    obtain ⟨party, x1⟩ := a
    rw [h1] at h
    simp only [] at h
    cases h2 : takeText l x1 24 with
    | none => rw [h2] at h; cases h
    | some b =>
      obtain ⟨cur, y1⟩ := b
      rw [h2] at h
      simp only [] at h
      cases h3 : takeInt l y1 with
      | none => rw [h3] at h; cases h
      | some c =>
        obtain ⟨amount, z1⟩ := c
        rw [h3] at h
        obtain ⟨rfl, rfl⟩ := Prod.mk.inj (Option.some.inj h)
        obtain ⟨r1, e1, f1, g1, k1⟩ := takeText_back h1
        obtain ⟨r2, e2, f2, g2, k2⟩ := takeText_back h2
        obtain ⟨r3, e3, f3, g3, g4, k3⟩ := takeInt_back h3
        have d1 : l.drop x1 = r1 := by rw [f1, ← List.drop_drop, e1, List.drop_left]
        have d2 : l.drop y1 = r2 := by rw [f2, ← List.drop_drop, e2, List.drop_left]
        rw [e3] at d2
        rw [e2] at d1
        refine ⟨r3, ?_, ?_, k3, ⟨?_, ?_, g3, g4⟩⟩
        · unfold encLeg
          dsimp only
          rw [e1, ← d1, ← d2]; simp
        · unfold encLeg
          dsimp only
          rw [List.length_append, List.length_append]; omega
        · show party.toArray.size ≤ 24; rw [List.size_toArray]; exact g1
        · show cur.toArray.size ≤ 24; rw [List.size_toArray]; exact g2
theorem takeLegs_back (l : List UInt8) : ∀ k at' e legs, takeLegs k l at' = some (legs, e) → ∃ rest, l.drop at' = encLegs legs ++ rest ∧ legs.length = k ∧ e = at' + (encLegs legs).length ∧ (e ≤ l.length ∨ k = 0) := by
  intro k
  induction k with
  | zero =>
    intro at' e legs h
    obtain ⟨rfl, rfl⟩ := Prod.mk.inj (Option.some.inj h)
    exact ⟨l.drop at', rfl, rfl, rfl, Or.inr rfl⟩
  | succ k ih =>
    intro at' e legs h
    rw [takeLegs] at h
    cases h1 : takeLeg l at' with
    | none => rw [h1] at h; cases h
    | some a =>
      obtain ⟨x, z⟩ := a
      rw [h1] at h
      simp only [] at h
      cases h2 : takeLegs k l z with
      | none => rw [h2] at h; cases h
      | some b =>
        obtain ⟨r, e'⟩ := b
        rw [h2] at h
        obtain ⟨rfl, rfl⟩ := Prod.mk.inj (Option.some.inj h)
        obtain ⟨r1, e1, f1, g1, _⟩ := takeLeg_back h1
        obtain ⟨r2, e2, f2, f3, g2⟩ := ih z e' r h2
        have d1 : l.drop z = r1 := by rw [f1, ← List.drop_drop, e1, List.drop_left]
        rw [e2] at d1
        refine ⟨r2, by rw [e1, ← d1, encLegs, List.append_assoc], by simp [f2], by rw [encLegs, List.length_append]; omega, ?_⟩
        rcases g2 with g2 | rfl
        · exact Or.inl g2
        · have hr : r = [] := List.length_eq_zero_iff.1 f2
          subst hr
          simp only [encLegs, List.length_nil] at f3
          left; omega
theorem name_len {s : ByteArray} (h : isName s = true) : s.size ≤ 24 := by
  have e : s.data.toList.length = s.size := Array.length_toList
  unfold isName at h
  cases hl : s.data.toList with
  | nil => rw [hl] at e; simp at e; omega
  | cons c t =>
    rw [hl] at h e
    simp only [Bool.and_eq_true, decide_eq_true_eq] at h
    simp at e; omega
theorem cur_len {s : ByteArray} (h : isCur s = true) : s.size = 3 := by
  unfold isCur at h
  simp only [Bool.and_eq_true, decide_eq_true_eq] at h
  exact h.1
theorem legOk_fits {x : Leg} (h : legOk x = true) : Fits x := by
  unfold legOk at h
  simp only [Bool.and_eq_true, decide_eq_true_eq] at h
  obtain ⟨h1, h2, h3, h4, h5⟩ := h
  exact ⟨name_len h1, by have := cur_len h2; omega, by omega, by omega⟩
/-- The parts of 'right'. -/
theorem right_parts {p : Post} (h : right p = true) : head p = true ∧ p.legs.all legOk = true ∧ rising p.legs = true ∧ even p.legs = true := by
  unfold right at h
  simpa only [Bool.and_eq_true] using h
theorem head_parts {p : Post} (h : head p = true) : 0 ≤ p.day ∧ p.day ≤ 73048 ∧ 1 ≤ p.id ∧ p.id ≤ 2147483647 ∧ 2 ≤ p.legs.length ∧ p.legs.length ≤ 64 := by
  unfold head at h
  simpa only [Bool.and_eq_true, decide_eq_true_eq] using h
theorem dec_enc (p : Post) (h : right p = true) : dec (enc p) = some p := by
  obtain ⟨h1, h2, h3, h4⟩ := right_parts h
  obtain ⟨d1, d2, i1, i2, n1, n2⟩ := head_parts h1
  have hf : ∀ x ∈ p.legs, Fits x := fun x hx => legOk_fits (List.all_eq_true.1 h2 x hx)
  have t1 := takeInt_put p.day (by omega) (by omega) [] (putInt p.id ++ (putInt p.legs.length ++ encLegs p.legs))
  have t2 := takeInt_put p.id (by omega) (by omega) (putInt p.day) (putInt p.legs.length ++ encLegs p.legs)
  have t3 := takeInt_put p.legs.length (by omega) (by omega) (putInt p.day ++ putInt p.id) (encLegs p.legs)
  have t4 := takeLegs_enc p.legs hf (putInt p.day ++ putInt p.id ++ putInt p.legs.length) []
  have e1 : ([] : List UInt8) ++ putInt p.day ++ (putInt p.id ++ (putInt p.legs.length ++ encLegs p.legs)) = enc p := by unfold enc; simp
  have e2 : putInt p.day ++ putInt p.id ++ (putInt p.legs.length ++ encLegs p.legs) = enc p := by unfold enc; simp
  have e3 : putInt p.day ++ putInt p.id ++ putInt p.legs.length ++ encLegs p.legs = enc p := by unfold enc; simp
  have e4 : putInt p.day ++ putInt p.id ++ putInt p.legs.length ++ encLegs p.legs ++ [] = enc p := by unfold enc; simp
  rw [e1] at t1
  rw [e2] at t2
  rw [e3] at t3
  rw [e4] at t4
  have hlen : (putInt p.day ++ putInt p.id ++ putInt (p.legs.length : Int)).length + (encLegs p.legs).length = (enc p).length := by unfold enc; simp; omega
  have th : takeHead (enc p) = some (p.day, p.id, (p.legs.length : Int), (putInt p.day ++ putInt p.id ++ putInt (p.legs.length : Int)).length) := by
    unfold takeHead
    rw [show (0 : Nat) = ([] : List UInt8).length from rfl, t1]
    simp only [List.length_nil, Nat.zero_add]
    rw [t2]
    simp only []
    rw [show (putInt p.day).length + (putInt p.id).length = (putInt p.day ++ putInt p.id).length by simp, t3]
    simp only [List.length_append]
  unfold dec
  rw [th]
  simp only []
  rw [if_neg (by omega), Int.toNat_natCast, t4]
  simp only []
  rw [if_pos ⟨hlen, h⟩]
theorem enc_dec {l : List UInt8} {p : Post} (h : dec l = some p) : enc p = l ∧ right p = true := by
  unfold dec at h
  cases h0 : takeHead l with
  | none => rw [h0] at h; cases h
  | some x =>
    obtain ⟨day, id, n, c⟩ := x
    rw [h0] at h
    simp only [] at h
    by_cases hn : n < 0 ∨ 64 < n
    · rw [if_pos hn] at h; cases h
    · rw [if_neg hn] at h
      cases h4 : takeLegs n.toNat l c with
      | none => rw [h4] at h; cases h
      | some y =>
        obtain ⟨legs, e⟩ := y
        rw [h4] at h
        simp only [] at h
        by_cases hc : e = l.length ∧ right ⟨day, id, legs⟩ = true
        · rw [if_pos hc] at h
          obtain rfl := Option.some.inj h
          refine ⟨?_, hc.2⟩
          unfold takeHead at h0
          cases h1 : takeInt l 0 with
          | none => rw [h1] at h0; cases h0
          | some a =>
            obtain ⟨day', a⟩ := a
            rw [h1] at h0
            simp only [] at h0
            cases h2 : takeInt l a with
            | none => rw [h2] at h0; cases h0
            | some b =>
              obtain ⟨id', b⟩ := b
              rw [h2] at h0
              simp only [] at h0
              cases h3 : takeInt l b with
              | none => rw [h3] at h0; cases h0
              | some cc =>
                obtain ⟨n', c'⟩ := cc
                rw [h3] at h0
                simp only [Option.some.injEq, Prod.mk.injEq] at h0
                obtain ⟨rfl, rfl, rfl, rfl⟩ := h0
                obtain ⟨r1, e1, f1, _, _, k1⟩ := takeInt_back h1
                obtain ⟨r2, e2, f2, _, _, k2⟩ := takeInt_back h2
                obtain ⟨r3, e3, f3, _, _, k3⟩ := takeInt_back h3
                obtain ⟨r4, e4, f4, f5, _⟩ := takeLegs_back l _ _ _ _ h4
                have d1 : l.drop a = r1 := by rw [f1, ← List.drop_drop, e1, List.drop_left]
                have d2 : l.drop b = r2 := by rw [f2, ← List.drop_drop, e2, List.drop_left]
                have d3 : l.drop c' = r3 := by rw [f3, ← List.drop_drop, e3, List.drop_left]
                rw [e2] at d1
                rw [e3] at d2
                rw [e4] at d3
                have hr4 : r4 = [] := by
                  have := congrArg List.length e4
                  rw [List.length_drop, List.length_append] at this
                  have h5 := hc.1
                  apply List.length_eq_zero_iff.1
                  omega
                have hn2 : ((legs.length : Nat) : Int) = n' := by rw [f4]; omega
                rw [List.drop_zero] at e1
                unfold enc
                simp only [hn2]
                rw [e1, ← d1, ← d2, ← d3, hr4, List.append_nil]
        · rw [if_neg hc] at h; cases h
end Led
end Go.Proofs.YtcpobnknmegkmaaGreatDoor
namespace Go.Proofs.YtcpobnknmegkmaaGreatDoor
set_option linter.unusedVariables false
set_option linter.unusedSimpArgs false
namespace Gen
open Wire
structure Wt where
  entry : Int
  day : Int
  label : ByteArray
  first : Int
  second : Int
structure Ix where
  op : Int
  a : Int
  b : Int
  c : Int
  n : Int
  s : ByteArray
  to : Int
structure Cd where
  regs : Int
  waits : List Wt
  ins : List Ix
/-- Which registers an operation uses, and whether it goes elsewhere. -/
def useA (op : Int) : Bool := decide (1 ≤ op) && decide (op ≤ 18) || decide (op = 25)
def useB (op : Int) : Bool := decide (4 ≤ op) && decide (op ≤ 19) || (decide (op = 23) || decide (op = 26))
def useC (op : Int) : Bool := decide (5 ≤ op) && decide (op ≤ 11) || decide (13 ≤ op) && decide (op ≤ 17)
def useT (op : Int) : Bool := decide (op = 2) || decide (19 ≤ op) && decide (op ≤ 22)
def fld (used : Bool) (r regs : Int) : Bool := if used then decide (0 ≤ r) && decide (r < regs) else decide (r = 0)
def within (n low high : Int) : Bool := decide (low ≤ n) && decide (n ≤ high)
def entryAt (c : Cd) (n : Int) : Int := match c.waits[n.toNat]? with | some w => w.entry | none => 0
def numOk (c : Cd) (at' : Int) (x : Ix) : Bool :=
  if x.op = 1 then within x.n (-1000000000000000) 1000000000000000
  else if x.op = 2 ∨ x.op = 3 then within x.n 0 3660
  else if x.op = 21 ∨ x.op = 22 then within x.n 0 73048
  else if x.op = 28 then within x.n 0 (c.waits.length - 1)
  else if x.op = 29 then within x.n 0 (c.waits.length - 1) && decide (at' < entryAt c x.n)
  else decide (x.n = 0)
def textOk (x : Ix) : Bool := if x.op = 2 then Led.isName x.s else if x.op = 27 then Led.isCur x.s else decide (x.s = ⟨#[]⟩)
def toOk (c : Cd) (at' : Int) (x : Ix) : Bool := if useT x.op then decide (at' < x.to) && decide (x.to < c.ins.length) else decide (x.to = 0)
def insOk (c : Cd) (at' : Int) (x : Ix) : Bool :=
  decide (1 ≤ x.op) && (decide (x.op ≤ 30) && (fld (useA x.op) x.a c.regs && (fld (useB x.op) x.b c.regs && (fld (useC x.op) x.c c.regs && (toOk c at' x && (numOk c at' x && textOk x))))))
def place (c : Cd) (n : Int) : Bool := decide (0 ≤ n) && decide (n < c.ins.length)
def waitOk (c : Cd) (w : Wt) : Bool :=
  place c w.entry && (within w.day 0 73048 && (if w.label = ⟨#[]⟩ then decide (w.first = 0) && decide (w.second = 0) else Led.isName w.label && (place c w.first && place c w.second)))
def lastOp (l : List Ix) : Int := match l.getLast? with | some x => x.op | none => 0
def right (c : Cd) : Bool :=
  within c.regs 0 256 && (decide (c.waits.length ≤ 250) && (decide (1 ≤ c.ins.length) && (decide (c.ins.length ≤ 16384) && (decide (lastOp c.ins = 30) && (c.waits.all (waitOk c) && (c.ins.zipIdx.all fun p => insOk c (p.2 : Int) p.1))))))
def encW (w : Wt) : List UInt8 := putInt w.entry ++ (putInt w.day ++ (putText w.label.data.toList ++ (putInt w.first ++ putInt w.second)))
def encI (x : Ix) : List UInt8 := putInt x.op ++ (putInt x.a ++ (putInt x.b ++ (putInt x.c ++ (putInt x.n ++ (putText x.s.data.toList ++ putInt x.to)))))
def enc (c : Cd) : List UInt8 := putInt c.regs ++ (putInt c.waits.length ++ (c.waits.flatMap encW ++ (putInt c.ins.length ++ c.ins.flatMap encI)))
/-- A reader: what it reads and where it stands then, or where nothing could be read. -/
abbrev Rd (α : Type) := List UInt8 → Nat → Except Nat (α × Nat)
def rt {α : Type} (a : α) : Rd α := fun _ k => .ok (a, k)
def bnd {α β : Type} (p : Rd α) (f : α → Rd β) : Rd β := fun l k => match p l k with | .error e => .error e | .ok (a, m) => f a l m
def rdI : Rd Int := fun l k => match takeInt l k with | none => .error k | some (n, m) => .ok (n, m)
def rdS : Rd ByteArray := fun l k => match takeText l k 24 with | none => .error k | some (s, m) => .ok (⟨s.toArray⟩, m)
def rdN (most : Nat) : Rd Nat := fun l k => match takeInt l k with | none => .error k | some (n, m) => if n < 0 ∨ (most : Int) < n then .error k else .ok (n.toNat, m)
def rdMany {α : Type} (p : Rd α) : Nat → Rd (List α)
  | 0 => rt []
  | n + 1 => bnd p fun a => bnd (rdMany p n) fun t => rt (a :: t)
def rdW : Rd Wt := bnd rdI fun e => bnd rdI fun d => bnd rdS fun s => bnd rdI fun f => bnd rdI fun g => rt ⟨e, d, s, f, g⟩
def rdX : Rd Ix := bnd rdI fun o => bnd rdI fun a => bnd rdI fun b => bnd rdI fun c => bnd rdI fun n => bnd rdS fun s => bnd rdI fun t => rt ⟨o, a, b, c, n, s, t⟩
def rdC : Rd Cd := bnd rdI fun r => bnd (rdN 250) fun n => bnd (rdMany rdW n) fun w => bnd (rdN 16384) fun m => bnd (rdMany rdX m) fun i => rt ⟨r, w, i⟩
def cd0 : Cd := ⟨0, [], []⟩
/-- What bytes are read az: the bytecode, the place, the number of the fault. -/
def dec (byteErr formErr : Int) (l : List UInt8) : Cd × Nat × Int :=
  match rdC l 0 with
  | .error k => (cd0, k, byteErr)
  | .ok (c, k) => if k < l.length then (cd0, k, byteErr) else if right c = true then (c, 0, 0) else (cd0, 0, formErr)
/-- A reader reads what was written. -/
def Put {α : Type} (p : Rd α) (e : List UInt8) (a : α) : Prop := ∀ pre rest, p (pre ++ e ++ rest) pre.length = .ok (a, pre.length + e.length)
theorem Put.ret {α : Type} (a : α) : Put (rt a) [] a := fun pre rest => by simp [rt]
theorem Put.andThen {α β : Type} {p : Rd α} {f : α → Rd β} {e e' : List UInt8} {a : α} {b : β} (h : Put p e a) (h' : Put (f a) e' b) : Put (bnd p f) (e ++ e') b := by
  intro pre rest
  unfold bnd
  have h1 := h pre (e' ++ rest)
  have h2 := h' (pre ++ e) rest
  rw [show pre ++ (e ++ e') ++ rest = pre ++ e ++ (e' ++ rest) by simp, h1]
  simp only
  rw [show pre ++ e ++ (e' ++ rest) = pre ++ e ++ e' ++ rest by simp, show pre.length + e.length = (pre ++ e).length by simp, h2]
  simp [Nat.add_assoc]
theorem Put.int (n : Int) (h : -9223372036854775808 ≤ n) (h' : n ≤ 9223372036854775807) : Put rdI (putInt n) n := fun pre rest => by
  unfold rdI; rw [takeInt_put n h h' pre rest]
theorem Put.text (s : ByteArray) (h : s.size ≤ 24) : Put rdS (putText s.data.toList) s := fun pre rest => by
  have hs : s.data.toList.length = s.size := Array.length_toList
  unfold rdS; rw [takeText_put _ pre rest 24 (by omega) (by omega)]
theorem Put.count (n most : Nat) (h : n ≤ most) (hm : most ≤ 100000) : Put (rdN most) (putInt n) n := fun pre rest => by
  unfold rdN; rw [takeInt_put _ (by omega) (by omega) pre rest]
  simp only
  rw [if_neg (by omega), Int.toNat_natCast]
theorem Put.many {α : Type} {p : Rd α} {e : α → List UInt8} : ∀ (l : List α), (∀ a ∈ l, Put p (e a) a) → Put (rdMany p l.length) (l.flatMap e) l
  | [], _ => Put.ret _
  | a :: t, h => by
    have h1 := h a (List.mem_cons_self ..)
    have h2 := Put.many t (fun x hx => h x (List.mem_cons_of_mem _ hx))
    have h3 := h1.andThen (f := fun a => bnd (rdMany p t.length) fun t => rt (a :: t)) (h2.andThen (f := fun t => rt (a :: t)) (Put.ret (a :: t)))
    rw [List.append_nil] at h3
    exact h3
structure Small (n : Int) : Prop where
  lo : -9223372036854775808 ≤ n
  hi : n ≤ 9223372036854775807
theorem Put.wait (w : Wt) (h1 : Small w.entry) (h2 : Small w.day) (h3 : w.label.size ≤ 24) (h4 : Small w.first) (h5 : Small w.second) : Put rdW (encW w) w := by
  have := (Put.int _ h1.lo h1.hi).andThen (f := fun e => bnd rdI fun d => bnd rdS fun s => bnd rdI fun f => bnd rdI fun g => rt (⟨e, d, s, f, g⟩ : Wt)) ((Put.int _ h2.lo h2.hi).andThen (f := fun d => bnd rdS fun s => bnd rdI fun f => bnd rdI fun g => rt (⟨w.entry, d, s, f, g⟩ : Wt)) ((Put.text _ h3).andThen (f := fun s => bnd rdI fun f => bnd rdI fun g => rt (⟨w.entry, w.day, s, f, g⟩ : Wt)) ((Put.int _ h4.lo h4.hi).andThen (f := fun f => bnd rdI fun g => rt (⟨w.entry, w.day, w.label, f, g⟩ : Wt)) ((Put.int _ h5.lo h5.hi).andThen (f := fun g => rt (⟨w.entry, w.day, w.label, w.first, g⟩ : Wt)) (Put.ret w)))))
  rw [List.append_nil] at this
  exact this
theorem Put.ins (x : Ix) (h1 : Small x.op) (h2 : Small x.a) (h3 : Small x.b) (h4 : Small x.c) (h5 : Small x.n) (h6 : x.s.size ≤ 24) (h7 : Small x.to) : Put rdX (encI x) x := by
  have := (Put.int _ h1.lo h1.hi).andThen (f := fun o => bnd rdI fun a => bnd rdI fun b => bnd rdI fun c => bnd rdI fun n => bnd rdS fun s => bnd rdI fun t => rt (⟨o, a, b, c, n, s, t⟩ : Ix)) ((Put.int _ h2.lo h2.hi).andThen (f := fun a => bnd rdI fun b => bnd rdI fun c => bnd rdI fun n => bnd rdS fun s => bnd rdI fun t => rt (⟨x.op, a, b, c, n, s, t⟩ : Ix)) ((Put.int _ h3.lo h3.hi).andThen (f := fun b => bnd rdI fun c => bnd rdI fun n => bnd rdS fun s => bnd rdI fun t => rt (⟨x.op, x.a, b, c, n, s, t⟩ : Ix)) ((Put.int _ h4.lo h4.hi).andThen (f := fun c => bnd rdI fun n => bnd rdS fun s => bnd rdI fun t => rt (⟨x.op, x.a, x.b, c, n, s, t⟩ : Ix)) ((Put.int _ h5.lo h5.hi).andThen (f := fun n => bnd rdS fun s => bnd rdI fun t => rt (⟨x.op, x.a, x.b, x.c, n, s, t⟩ : Ix)) ((Put.text _ h6).andThen (f := fun s => bnd rdI fun t => rt (⟨x.op, x.a, x.b, x.c, x.n, s, t⟩ : Ix)) ((Put.int _ h7.lo h7.hi).andThen (f := fun t => rt (⟨x.op, x.a, x.b, x.c, x.n, x.s, t⟩ : Ix)) (Put.ret x)))))))
  rw [List.append_nil] at this
  exact this
/-- What was read stands in the bytes. -/
def Sp (l : List UInt8) (k : Nat) (e : List UInt8) (m : Nat) : Prop := l.drop k = e ++ l.drop m ∧ m = k + e.length
theorem Sp.nil (l : List UInt8) (k : Nat) : Sp l k [] k := ⟨rfl, rfl⟩
theorem Sp.trans {l : List UInt8} {k m j : Nat} {e e' : List UInt8} (h : Sp l k e m) (h' : Sp l m e' j) : Sp l k (e ++ e') j := by
  refine ⟨by rw [h.1, h'.1, List.append_assoc], by rw [h'.2, h.2, List.length_append, Nat.add_assoc]⟩
theorem bnd_back {α β : Type} {p : Rd α} {f : α → Rd β} {l : List UInt8} {k m : Nat} {b : β} (h : bnd p f l k = .ok (b, m)) : ∃ a j, p l k = .ok (a, j) ∧ f a l j = .ok (b, m) := by
  unfold bnd at h
  split at h
  · cases h
  · rename_i a j hp
    exact ⟨a, j, hp, h⟩
theorem rdI_back {l : List UInt8} {k m : Nat} {n : Int} (h : rdI l k = .ok (n, m)) : Sp l k (putInt n) m ∧ Small n := by
  unfold rdI at h
  split at h
  · cases h
  · rename_i n' m' ht
    obtain ⟨rfl, rfl⟩ : n' = n ∧ m' = m := by simpa using h
    obtain ⟨rest, h1, h2, h3, h4, _⟩ := takeInt_back ht
    exact ⟨⟨by rw [h2, ← List.drop_drop, h1, List.drop_left], h2⟩, ⟨h3, h4⟩⟩
theorem rdN_back {most : Nat} {l : List UInt8} {k m : Nat} {n : Nat} (h : rdN most l k = .ok (n, m)) : Sp l k (putInt n) m ∧ n ≤ most := by
  unfold rdN at h
  split at h
  · cases h
  · rename_i n' m' ht
    split at h
    · cases h
    · rename_i hn
      obtain ⟨e, rfl⟩ : n'.toNat = n ∧ m' = m := by simpa using h
      obtain ⟨rest, h1, h2, h3, h4, _⟩ := takeInt_back ht
      have e2 : ((n : Nat) : Int) = n' := by omega
      rw [e2]
      exact ⟨⟨by rw [h2, ← List.drop_drop, h1, List.drop_left], h2⟩, by omega⟩
theorem rdS_back {l : List UInt8} {k m : Nat} {s : ByteArray} (h : rdS l k = .ok (s, m)) : Sp l k (putText s.data.toList) m ∧ s.size ≤ 24 := by
  unfold rdS at h
  split at h
  · cases h
  · rename_i s' m' ht
    obtain ⟨rfl, rfl⟩ : (⟨s'.toArray⟩ : ByteArray) = s ∧ m' = m := by simpa using h
    obtain ⟨rest, h1, h2, h3, _⟩ := takeText_back ht
    exact ⟨⟨by rw [h2, ← List.drop_drop, h1, List.drop_left], h2⟩, by show s'.toArray.size ≤ 24; simpa using h3⟩
theorem rdMany_back {α : Type} {p : Rd α} {e : α → List UInt8} {R : α → Prop} (hp : ∀ l k a m, p l k = .ok (a, m) → Sp l k (e a) m ∧ R a) : ∀ (n : Nat) (l : List UInt8) (k m : Nat) (az : List α), rdMany p n l k = .ok (az, m) → Sp l k (az.flatMap e) m ∧ az.length = n ∧ ∀ a ∈ az, R a
  | 0, l, k, m, az, h => by
    obtain ⟨rfl, rfl⟩ : [] = az ∧ k = m := by simpa [rdMany, rt] using h
    exact ⟨Sp.nil _ _, rfl, fun a ha => by cases ha⟩
  | n + 1, l, k, m, az, h => by
    obtain ⟨a, j, h1, h2⟩ := bnd_back h
    obtain ⟨t, i, h3, h4⟩ := bnd_back h2
    obtain ⟨rfl, rfl⟩ : a :: t = az ∧ i = m := by simpa [rt] using h4
    obtain ⟨s1, r1⟩ := hp _ _ _ _ h1
    obtain ⟨s2, hl, r2⟩ := rdMany_back hp n l j i t h3
    exact ⟨s1.trans s2, by rw [List.length_cons, hl], fun x hx => by
      rcases List.mem_cons.1 hx with rfl | hx
      · exact r1
      · exact r2 x hx⟩
theorem rdW_back {l : List UInt8} {k m : Nat} {w : Wt} (h : rdW l k = .ok (w, m)) : Sp l k (encW w) m ∧ True := by
  obtain ⟨e, j1, h1, h⟩ := bnd_back h
  obtain ⟨d, j2, h2, h⟩ := bnd_back h
  obtain ⟨s, j3, h3, h⟩ := bnd_back h
  obtain ⟨f, j4, h4, h⟩ := bnd_back h
  obtain ⟨g, j5, h5, h⟩ := bnd_back h
  obtain ⟨rfl, rfl⟩ : (⟨e, d, s, f, g⟩ : Wt) = w ∧ j5 = m := by simpa [rt] using h
  exact ⟨(rdI_back h1).1.trans ((rdI_back h2).1.trans ((rdS_back h3).1.trans ((rdI_back h4).1.trans (rdI_back h5).1))), trivial⟩
theorem rdX_back {l : List UInt8} {k m : Nat} {x : Ix} (h : rdX l k = .ok (x, m)) : Sp l k (encI x) m ∧ True := by
  obtain ⟨o, j1, h1, h⟩ := bnd_back h
  obtain ⟨a, j2, h2, h⟩ := bnd_back h
  obtain ⟨b, j3, h3, h⟩ := bnd_back h
  obtain ⟨c, j4, h4, h⟩ := bnd_back h
  obtain ⟨n, j5, h5, h⟩ := bnd_back h
  obtain ⟨s, j6, h6, h⟩ := bnd_back h
  obtain ⟨t, j7, h7, h⟩ := bnd_back h
  obtain ⟨rfl, rfl⟩ : (⟨o, a, b, c, n, s, t⟩ : Ix) = x ∧ j7 = m := by simpa [rt] using h
  exact ⟨(rdI_back h1).1.trans ((rdI_back h2).1.trans ((rdI_back h3).1.trans ((rdI_back h4).1.trans ((rdI_back h5).1.trans ((rdS_back h6).1.trans (rdI_back h7).1))))), trivial⟩
/-- What was read is written so again. -/
theorem enc_dec {l : List UInt8} {c : Cd} {k : Nat} (h : rdC l 0 = .ok (c, k)) (hk : ¬ k < l.length) : enc c = l := by
  obtain ⟨r, j1, h1, h⟩ := bnd_back h
  obtain ⟨n, j2, h2, h⟩ := bnd_back h
  obtain ⟨w, j3, h3, h⟩ := bnd_back h
  obtain ⟨m, j4, h4, h⟩ := bnd_back h
  obtain ⟨i, j5, h5, h⟩ := bnd_back h
  obtain ⟨rfl, rfl⟩ : (⟨r, w, i⟩ : Cd) = c ∧ j5 = k := by simpa [rt] using h
  obtain ⟨s3, hw, _⟩ := rdMany_back (R := fun _ => True) (fun l k a m => rdW_back) n l j2 j3 w h3
  obtain ⟨s5, hi, _⟩ := rdMany_back (R := fun _ => True) (fun l k a m => rdX_back) m l j4 j5 i h5
  have s2 := (rdN_back h2).1
  have s4 := (rdN_back h4).1
  rw [← hw] at s2
  rw [← hi] at s4
  have s := (rdI_back h1).1.trans (s2.trans (s3.trans (s4.trans s5)))
  have e := s.1
  rw [List.drop_zero, List.drop_of_length_le (by omega), List.append_nil] at e
  exact e.symm
/-- What is right, in parts. -/
theorem right_parts {c : Cd} (h : right c = true) : (0 ≤ c.regs ∧ c.regs ≤ 256) ∧ c.waits.length ≤ 250 ∧ 1 ≤ c.ins.length ∧ c.ins.length ≤ 16384 ∧ lastOp c.ins = 30 ∧ (∀ w ∈ c.waits, waitOk c w = true) ∧ ∀ (i : Nat) x, c.ins[i]? = some x → insOk c (i : Int) x = true := by
  unfold right within at h
  simp only [Bool.and_eq_true, decide_eq_true_eq, List.all_eq_true] at h
  obtain ⟨h1, h2, h3, h4, h5, h6, h7⟩ := h
  refine ⟨h1, h2, h3, h4, h5, h6, fun i x hx => ?_⟩
  refine h7 (x, i) ?_
  rw [List.mem_iff_getElem?]
  exact ⟨i, by rw [List.getElem?_zipIdx, hx]; simp⟩
theorem fld_small {u : Bool} {r regs : Int} (h : fld u r regs = true) (hr : regs ≤ 256) : Small r := by
  unfold fld at h
  split at h
  · simp only [Bool.and_eq_true, decide_eq_true_eq] at h; exact ⟨by omega, by omega⟩
  · simp only [decide_eq_true_eq] at h; exact ⟨by omega, by omega⟩
theorem cur_len {s : ByteArray} (h : Led.isCur s = true) : s.size ≤ 24 := by
  unfold Led.isCur at h
  simp only [Bool.and_eq_true, decide_eq_true_eq] at h
  omega
theorem ins_small {c : Cd} {i : Int} {x : Ix} (h : insOk c i x = true) (hr : c.regs ≤ 256) (hw : c.waits.length ≤ 250) (hi : c.ins.length ≤ 16384) (h0 : 0 ≤ i) : Small x.op ∧ Small x.a ∧ Small x.b ∧ Small x.c ∧ Small x.n ∧ x.s.size ≤ 24 ∧ Small x.to := by
  unfold insOk at h
  simp only [Bool.and_eq_true, decide_eq_true_eq] at h
  obtain ⟨h1, h2, h3, h4, h5, h6, h7, h8⟩ := h
  refine ⟨⟨by omega, by omega⟩, fld_small h3 hr, fld_small h4 hr, fld_small h5 hr, ?_, ?_, ?_⟩
  · unfold numOk within at h7
    repeat' split at h7
    all_goals simp only [Bool.and_eq_true, decide_eq_true_eq] at h7
    all_goals exact ⟨by omega, by omega⟩
  · unfold textOk at h8
    repeat' split at h8
    · exact Led.name_len h8
    · exact cur_len h8
    · rw [of_decide_eq_true h8]; decide
  · unfold toOk at h6
    split at h6
    · simp only [Bool.and_eq_true, decide_eq_true_eq] at h6; exact ⟨by omega, by omega⟩
    · simp only [decide_eq_true_eq] at h6; exact ⟨by omega, by omega⟩
theorem wait_small {c : Cd} {w : Wt} (h : waitOk c w = true) (hi : c.ins.length ≤ 16384) : Small w.entry ∧ Small w.day ∧ w.label.size ≤ 24 ∧ Small w.first ∧ Small w.second := by
  unfold waitOk place within at h
  simp only [Bool.and_eq_true, decide_eq_true_eq] at h
  obtain ⟨h1, h2, h3⟩ := h
  refine ⟨⟨by omega, by omega⟩, ⟨by omega, by omega⟩, ?_⟩
  split at h3
  · rename_i e
    simp only [Bool.and_eq_true, decide_eq_true_eq] at h3
    rw [e]
    exact ⟨by decide, ⟨by omega, by omega⟩, ⟨by omega, by omega⟩⟩
  · simp only [Bool.and_eq_true, decide_eq_true_eq] at h3
    exact ⟨Led.name_len h3.1, ⟨by omega, by omega⟩, ⟨by omega, by omega⟩⟩
/-- What was written is read az it was. -/
theorem rd_enc {c : Cd} (h : right c = true) : rdC (enc c) 0 = .ok (c, (enc c).length) := by
  obtain ⟨h1, h2, h3, h4, h5, h6, h7⟩ := right_parts h
  have pw := Put.many (p := rdW) (e := encW) c.waits (fun w hw => by
    obtain ⟨a1, a2, a3, a4, a5⟩ := wait_small (h6 w hw) h4
    exact Put.wait w a1 a2 a3 a4 a5)
  have pi := Put.many (p := rdX) (e := encI) c.ins (fun x hx => by
    obtain ⟨i, hi⟩ := List.getElem?_of_mem hx
    obtain ⟨a1, a2, a3, a4, a5, a6, a7⟩ := ins_small (h7 i x hi) h1.2 h2 h4 (by omega)
    exact Put.ins x a1 a2 a3 a4 a5 a6 a7)
  have p := (Put.int c.regs (by omega) (by omega)).andThen (f := fun r => bnd (rdN 250) fun n => bnd (rdMany rdW n) fun w => bnd (rdN 16384) fun m => bnd (rdMany rdX m) fun i => rt (⟨r, w, i⟩ : Cd))
    ((Put.count c.waits.length 250 h2 (by omega)).andThen (f := fun n => bnd (rdMany rdW n) fun w => bnd (rdN 16384) fun m => bnd (rdMany rdX m) fun i => rt (⟨c.regs, w, i⟩ : Cd))
      (pw.andThen (f := fun w => bnd (rdN 16384) fun m => bnd (rdMany rdX m) fun i => rt (⟨c.regs, w, i⟩ : Cd))
        ((Put.count c.ins.length 16384 h4 (by omega)).andThen (f := fun m => bnd (rdMany rdX m) fun i => rt (⟨c.regs, c.waits, i⟩ : Cd))
          (pi.andThen (f := fun i => rt (⟨c.regs, c.waits, i⟩ : Cd)) (Put.ret c)))))
  rw [List.append_nil] at p
  have := p [] []
  simp only [List.nil_append, List.append_nil, List.length_nil, Nat.zero_add] at this
  exact this
theorem dec_enc {byteErr formErr : Int} {c : Cd} (h : right c = true) : dec byteErr formErr (enc c) = (c, 0, 0) := by
  unfold dec
  rw [rd_enc h]
  simp only [Nat.lt_irrefl, if_false, h, if_true]
theorem dec_back {byteErr formErr : Int} {l : List UInt8} {c : Cd} {k : Nat} (h : dec byteErr formErr l = (c, k, 0)) (hb : byteErr ≠ 0) (hf : formErr ≠ 0) : right c = true ∧ enc c = l := by
  unfold dec at h
  split at h
  · simp only [Prod.mk.injEq] at h; exact absurd h.2.2 hb
  · rename_i c' k' hr
    split at h
    · simp only [Prod.mk.injEq] at h; exact absurd h.2.2 hb
    · rename_i hk
      split at h
      · rename_i hrt
        simp only [Prod.mk.injEq] at h
        obtain ⟨rfl, _⟩ := h
        exact ⟨hrt, enc_dec hr hk⟩
      · simp only [Prod.mk.injEq] at h; exact absurd h.2.2 hf
end Gen
end Go.Proofs.YtcpobnknmegkmaaGreatDoor
namespace Go.Proofs.YtcpobnknmegkmaaGreatDoor
set_option linter.unusedVariables false
set_option linter.unusedSimpArgs false
namespace Vm
open Gen
/-- What the machine reckons with. -/
structure Env where
  day : Int
  now : Int → Int
  feed : ByteArray → Int → Option Int
  rk : Int → Int → Int → Int
  mul : Int → Int → Int
  neg : Int → Int
  clamp : Int → Int
structure St where
  holds : List (Int × Int)
  out : List (ByteArray × Int)
  steps : Nat
  over : Bool
def reg (r : List Int) (a : Int) : Int := (r[a.toNat]?).getD 0
def setReg (r : List Int) (a v : Int) : List Int := r.set a.toNat v
def zeros : List Int := List.replicate 256 0
/-- What an instruction does. -/
inductive Act where
  | stop
  | next (at' : Int) (f : Int) (r : List Int)
  | pay
  | hold
  | call (entry : Int)
def jumps (E : Env) (x : Ix) (b : Int) : Bool :=
  if x.op = 20 then true else if x.op = 19 then decide (b = 0) else if x.op = 21 then decide (x.n < E.day) else if x.op = 22 then decide (E.day < x.n) else false
def act (c : Cd) (E : Env) (x : Ix) (a f : Int) (r : List Int) : Act :=
  if x.op = 30 then .stop
  else if x.op = 1 then .next (a + 1) f (setReg r x.a x.n)
  else if x.op = 3 then .next (a + 1) f (setReg r x.a (E.now x.n))
  else if x.op = 2 then (match E.feed x.s x.n with | none => .next x.to f r | some n => .next (a + 1) f (setReg r x.a n))
  else if x.op = 20 ∨ x.op = 19 ∨ x.op = 21 ∨ x.op = 22 then .next (if jumps E x (reg r x.b) then x.to else a + 1) f r
  else if x.op = 23 then .next (a + 1) (E.mul f (reg r x.b)) r
  else if x.op = 24 then .next (a + 1) (E.neg f) r
  else if x.op = 25 then .next (a + 1) f (setReg r x.a f)
  else if x.op = 26 then .next (a + 1) (E.clamp (reg r x.b)) r
  else if x.op = 27 then (if f = 0 then .next (a + 1) f r else .pay)
  else if x.op = 28 then .hold
  else if x.op = 29 then .call (entryAt c x.n)
  else .next (a + 1) f (setReg r x.a (E.rk x.op (reg r x.b) (reg r x.c)))
def insAt (c : Cd) (a : Int) : Ix := (c.ins[a.toNat]?).getD ⟨30, 0, 0, 0, 0, ⟨#[]⟩, 0⟩
def runF (c : Cd) (E : Env) : Nat → Int → Int → List Int → St → St
  | 0, _, _, _, st => ⟨st.holds, st.out, st.steps + 1, true⟩
  | k + 1, a, f, r, st =>
    if 65536 < st.steps + 1 ∨ st.over = true then ⟨st.holds, st.out, st.steps + 1, true⟩
    else match act c E (insAt c a) a f r with
      | .stop => ⟨st.holds, st.out, st.steps + 1, false⟩
      | .next a' f' r' => runF c E k a' f' r' ⟨st.holds, st.out, st.steps + 1, false⟩
      | .pay => runF c E k (a + 1) f r ⟨st.holds, st.out ++ [((insAt c a).s, f)], st.steps + 1, false⟩
      | .hold => runF c E k (a + 1) f r ⟨st.holds ++ [((insAt c a).n, f)], st.out, st.steps + 1, decide (250 < st.holds.length + 1)⟩
      | .call e => runF c E k (a + 1) f r (runF c E k e f zeros ⟨st.holds, st.out, st.steps + 1, false⟩)
theorem steps_le (c : Cd) (E : Env) : ∀ (k : Nat) (a f : Int) (r : List Int) (st : St), st.steps + 1 ≤ (runF c E k a f r st).steps := by
  intro k
  induction k with
  | zero => intro a f r st; exact Nat.le_refl _
  | succ k ih =>
    intro a f r st
    unfold runF
    split
    · exact Nat.le_refl _
    · split
      · exact Nat.le_refl _
      · refine Nat.le_trans ?_ (ih _ _ _ _)
        simp only; omega
      · refine Nat.le_trans ?_ (ih _ _ _ _)
        simp only; omega
      · refine Nat.le_trans ?_ (ih _ _ _ _)
        simp only; omega
      · rename_i e _
        have h1 := ih e f zeros ⟨st.holds, st.out, st.steps + 1, false⟩
        have h2 := ih (a + 1) f r (runF c E k e f zeros ⟨st.holds, st.out, st.steps + 1, false⟩)
        simp only at h1
        omega
/-- More fuel than is wanted changes nothing. -/
theorem runF_eq (c : Cd) (E : Env) : ∀ (k k' : Nat) (a f : Int) (r : List Int) (st : St), 65538 ≤ k + st.steps → 65538 ≤ k' + st.steps → runF c E k a f r st = runF c E k' a f r st := by
  intro k
  induction k with
  | zero =>
    intro k' a f r st h h'
    cases k' with
    | zero => rfl
    | succ k' => rw [runF, runF, if_pos (.inl (by omega))]
  | succ k ih =>
    intro k' a f r st h h'
    cases k' with
    | zero => rw [runF, runF, if_pos (.inl (by omega))]
    | succ k' =>
      rw [runF, runF]
      split
      · rfl
      · split
        · rfl
        · exact ih k' _ _ _ _ (by simp only; omega) (by simp only; omega)
        · exact ih k' _ _ _ _ (by simp only; omega) (by simp only; omega)
        · exact ih k' _ _ _ _ (by simp only; omega) (by simp only; omega)
        · rename_i e _
          have h1 := steps_le c E k' e f zeros ⟨st.holds, st.out, st.steps + 1, false⟩
          simp only at h1
          rw [ih k' e f zeros ⟨st.holds, st.out, st.steps + 1, false⟩ (by simp only; omega) (by simp only; omega)]
          exact ih k' _ _ _ _ (by omega) (by omega)
def run (c : Cd) (E : Env) (a f : Int) (r : List Int) (st : St) : St := runF c E (65538 - st.steps) a f r st
theorem runF_run (c : Cd) (E : Env) {k : Nat} {a f : Int} {r : List Int} {st : St} (h : 65538 ≤ k + st.steps) : runF c E k a f r st = run c E a f r st :=
  runF_eq c E k _ a f r st h (by omega)
/-- One instruction. -/
theorem run_step (c : Cd) (E : Env) (a f : Int) (r : List Int) (st : St) : run c E a f r st =
    if 65536 < st.steps + 1 ∨ st.over = true then ⟨st.holds, st.out, st.steps + 1, true⟩
    else match act c E (insAt c a) a f r with
      | .stop => ⟨st.holds, st.out, st.steps + 1, false⟩
      | .next a' f' r' => run c E a' f' r' ⟨st.holds, st.out, st.steps + 1, false⟩
      | .pay => run c E (a + 1) f r ⟨st.holds, st.out ++ [((insAt c a).s, f)], st.steps + 1, false⟩
      | .hold => run c E (a + 1) f r ⟨st.holds ++ [((insAt c a).n, f)], st.out, st.steps + 1, decide (250 < st.holds.length + 1)⟩
      | .call e => run c E (a + 1) f r (run c E e f zeros ⟨st.holds, st.out, st.steps + 1, false⟩) := by
  rw [← runF_run c E (k := 65538 + 1) (by omega)]
  rw [runF]
  split
  · rfl
  · split
    · rfl
    · exact runF_run c E (by omega)
    · exact runF_run c E (by omega)
    · exact runF_run c E (by omega)
    · rw [runF_run c E (by omega), runF_run c E (by omega)]
/-- Two states with the same behind different beginnings. -/
def Alike (H : List (Int × Int)) (O : List (ByteArray × Int)) (s : Nat) (H2 : List (Int × Int)) (O2 : List (ByteArray × Int)) (s2 : Nat) (x y : St) : Prop :=
  ∃ dh do' ds, x = ⟨H ++ dh, O ++ do', s + ds, false⟩ ∧ y = ⟨H2 ++ dh, O2 ++ do', s2 + ds, false⟩
theorem over_stays (c : Cd) (E : Env) : ∀ (k : Nat) (a f : Int) (r : List Int) (st : St), st.over = true → (runF c E k a f r st).over = true := by
  intro k a f r st h
  cases k with
  | zero => rfl
  | succ k => rw [runF, if_pos (.inr h)]
theorem alike_run (c : Cd) (E : Env) (H : List (Int × Int)) (O : List (ByteArray × Int)) (s : Nat) (H2 : List (Int × Int)) (O2 : List (ByteArray × Int)) (s2 : Nat) (hH : H2.length ≤ H.length) (hs : s2 ≤ s) :
    ∀ (k k' : Nat) (a f : Int) (r : List Int) (x y : St), k ≤ k' → Alike H O s H2 O2 s2 x y → (runF c E k a f r x).over = false → Alike H O s H2 O2 s2 (runF c E k a f r x) (runF c E k' a f r y) := by
  intro k
  induction k with
  | zero => intro k' a f r x y _ _ h; cases h
  | succ k ih =>
    intro k' a f r x y hk hxy h
    obtain ⟨k', rfl⟩ : ∃ j, k' = j + 1 := ⟨k' - 1, by omega⟩
    obtain ⟨dh, do', ds, rfl, rfl⟩ := hxy
    rw [runF] at h ⊢
    rw [runF]
    by_cases hl : 65536 < s + ds + 1
    · rw [if_pos (.inl hl)] at h; cases h
    · rw [if_neg (by simp; omega)] at h
      rw [if_neg (by simp; omega), if_neg (by simp; omega)]
      cases hact : act c E (insAt c a) a f r with
      | stop => exact ⟨dh, do', ds + 1, rfl, rfl⟩
      | next a' f' r' =>
        rw [hact] at h
        exact ih k' a' f' r' _ _ (by omega) ⟨dh, do', ds + 1, rfl, rfl⟩ h
      | pay =>
        rw [hact] at h
        exact ih k' _ f r _ _ (by omega) ⟨dh, do' ++ [((insAt c a).s, f)], ds + 1, by simp [Nat.add_assoc], by simp [Nat.add_assoc]⟩ h
      | hold =>
        rw [hact] at h
        simp only at h ⊢
        by_cases hov : 250 < (H ++ dh).length + 1
        · rw [decide_eq_true hov] at h
          rw [over_stays c E k _ f r _ rfl] at h
          cases h
        · have hov2 : ¬ 250 < (H2 ++ dh).length + 1 := by rw [List.length_append] at *; omega
          rw [decide_eq_false hov] at h ⊢
          rw [decide_eq_false hov2]
          exact ih k' _ f r _ _ (by omega) ⟨dh ++ [((insAt c a).n, f)], do', ds + 1, by simp [Nat.add_assoc], by simp [Nat.add_assoc]⟩ h
      | call e =>
        rw [hact] at h
        simp only at h ⊢
        cases hm : (runF c E k e f zeros ⟨H ++ dh, O ++ do', s + ds + 1, false⟩).over with
        | true => rw [over_stays c E k _ f r _ hm] at h; cases h
        | false =>
          exact ih k' _ f r _ _ (by omega) (ih k' e f zeros _ _ (by omega) ⟨dh, do', ds + 1, rfl, rfl⟩ hm) h
/-- Holds one behind the other. -/
def all (c : Cd) (E : Env) (entry : Int → Int) (l : List (Int × Int)) (st : St) : St := l.foldl (fun st h => run c E (entry h.1) h.2 zeros st) st
def st0 : St := ⟨[], [], 0, false⟩
theorem all_over (c : Cd) (E : Env) (entry : Int → Int) (l : List (Int × Int)) : ∀ st : St, st.over = true → (all c E entry l st).over = true := by
  induction l with
  | nil => intro st h; exact h
  | cons x t ih => intro st h; exact ih _ (over_stays c E _ _ _ _ st h)
theorem all_alike (c : Cd) (E : Env) (entry : Int → Int) (H : List (Int × Int)) (O : List (ByteArray × Int)) (s : Nat) (H2 : List (Int × Int)) (O2 : List (ByteArray × Int)) (s2 : Nat) (hH : H2.length ≤ H.length) (hs : s2 ≤ s) (l : List (Int × Int)) :
    ∀ x y : St, Alike H O s H2 O2 s2 x y → (all c E entry l x).over = false → Alike H O s H2 O2 s2 (all c E entry l x) (all c E entry l y) := by
  induction l with
  | nil => intro x y h _; exact h
  | cons z t ih =>
    intro x y h ho
    have hx : (run c E (entry z.1) z.2 zeros x).over = false := by
      cases hm : (run c E (entry z.1) z.2 zeros x).over with
      | false => rfl
      | true =>
        have := all_over c E entry t _ hm
        rw [show (all c E entry (z :: t) x).over = (all c E entry t (run c E (entry z.1) z.2 zeros x)).over from rfl, this] at ho
        cases ho
    refine ih _ _ ?_ ho
    obtain ⟨dh, do', ds, rfl, rfl⟩ := h
    exact alike_run c E H O s H2 O2 s2 hH hs _ _ _ _ _ _ _ (by simp only; omega) ⟨dh, do', ds, rfl, rfl⟩ hx
/-- **VmParts, plainly.** -/
theorem parts (c : Cd) (E : Env) (entry : Int → Int) (l m : List (Int × Int)) (h : (all c E entry (l ++ m) st0).over = false) :
    (all c E entry l st0).over = false ∧ (all c E entry m st0).over = false ∧
    (all c E entry (l ++ m) st0).holds = (all c E entry l st0).holds ++ (all c E entry m st0).holds ∧
    (all c E entry (l ++ m) st0).out = (all c E entry l st0).out ++ (all c E entry m st0).out ∧
    (all c E entry (l ++ m) st0).steps = (all c E entry l st0).steps + (all c E entry m st0).steps := by
  have e : all c E entry (l ++ m) st0 = all c E entry m (all c E entry l st0) := List.foldl_append ..
  rw [e] at h ⊢
  have ha : (all c E entry l st0).over = false := by
    cases hm : (all c E entry l st0).over with
    | false => rfl
    | true => rw [all_over c E entry m _ hm] at h; cases h
  generalize all c E entry l st0 = x at *
  obtain ⟨H, O, s, o⟩ := x
  obtain rfl : o = false := ha
  obtain ⟨dh, do', ds, e1, e2⟩ := all_alike c E entry H O s [] [] 0 (Nat.zero_le _) (Nat.zero_le _) m ⟨H, O, s, false⟩ st0 ⟨[], [], 0, by simp, by simp [st0]⟩ h
  rw [e1, e2]
  exact ⟨rfl, rfl, by simp, by simp, by simp⟩
end Vm
end Go.Proofs.YtcpobnknmegkmaaGreatDoor
