/- Proved: postings in plain words: which are right, their bytes, and that these are read back. No program in sight. -/
import Derived.Test.YtbpcgcmlpgdmbaaDoorWirePlain
import Derived.Lib.Bytealg
namespace Go.Proofs.YtbpcgcmlpgdmbaaDoor
set_option linter.unusedVariables false
set_option linter.unusedSimpArgs false
namespace Wire
theorem takeText_put (s pre rest : List UInt8) (most : Nat) (h : s.length ≤ most) (h' : s.length ≤ 9223372036854775807) :
    takeText (pre ++ putText s ++ rest) pre.length most = some (s, pre.length + (putText s).length) := by
  unfold takeText putText
  rw [show pre ++ (putInt (s.length : Int) ++ s) ++ rest = pre ++ putInt (s.length : Int) ++ (s ++ rest) by simp, takeInt_put _ (by omega) (by omega)]
  simp only []
  rw [if_neg, show pre.length + (putInt (s.length : Int)).length = (pre ++ putInt (s.length : Int)).length by simp, List.drop_left, Int.toNat_natCast, List.take_left]
  · simp; omega
  · simp; omega
theorem takeText_back {l : List UInt8} {at' most next : Nat} {s : List UInt8} (h : takeText l at' most = some (s, next)) :
    ∃ rest, l.drop at' = putText s ++ rest ∧ next = at' + (putText s).length ∧ s.length ≤ most ∧ next ≤ l.length := by
  unfold takeText at h
  cases hv : takeInt l at' with
  | none => rw [hv] at h; cases h
  | some x =>
    obtain ⟨n, e⟩ := x
    rw [hv] at h
    simp only [] at h
    obtain ⟨rest, h1, h2, h3, h4, h5⟩ := takeInt_back hv
    by_cases hc : n < 0 ∨ (most : Int) < n ∨ ((l.length : Int) - (e : Int)) < n
    · rw [if_pos hc] at h; cases h
    · rw [if_neg hc] at h
      obtain ⟨e1, e2⟩ := Prod.mk.inj (Option.some.inj h)
      have hr : l.drop e = rest := by
        rw [h2, ← List.drop_drop, h1, List.drop_left]
      have hl : rest.length = l.length - e := by rw [← hr, List.length_drop]
      have hs : s.length = n.toNat := by rw [← e1, List.length_take, hr, hl]; omega
      have hn : ((s.length : Nat) : Int) = n := by omega
      refine ⟨rest.drop n.toNat, ?_, ?_, by omega, by omega⟩
      · rw [h1, putText, hn, List.append_assoc, ← e1, hr, List.take_append_drop]
      · rw [putText, hn, List.length_append]; omega
end Wire
namespace Led
open Wire
structure Leg where
  party : ByteArray
  cur : ByteArray
  amount : Int
structure Post where
  day : Int
  id : Int
  legs : List Leg
def nameB (c : UInt8) : Bool := (97 ≤ c.toNat && c.toNat ≤ 122) || (48 ≤ c.toNat && c.toNat ≤ 57) || c.toNat == 95
def curB (c : UInt8) : Bool := 65 ≤ c.toNat && c.toNat ≤ 90
def lowB (c : UInt8) : Bool := 97 ≤ c.toNat && c.toNat ≤ 122
def isName (s : ByteArray) : Bool :=
  match s.data.toList with
  | [] => false
  | c :: t => decide (t.length + 1 ≤ 24) && (lowB c && (c :: t).all nameB)
def isCur (s : ByteArray) : Bool := decide (s.size = 3) && s.data.toList.all curB
/-- Which of two accounts stands ahead: by party, then by currency. -/
def cmp (p c p' c' : ByteArray) : Int := if Lib.compareBytes p.data.toList p'.data.toList ≠ 0 then Lib.compareBytes p.data.toList p'.data.toList else Lib.compareBytes c.data.toList c'.data.toList
def legOk (x : Leg) : Bool := isName x.party && (isCur x.cur && (decide (x.amount ≠ 0) && (decide (-1000000000000000 ≤ x.amount) && decide (x.amount ≤ 1000000000000000))))
def rises (x y : Leg) : Bool := decide (cmp x.party x.cur y.party y.cur < 0)
def rising : List Leg → Bool
  | [] => true
  | [_] => true
  | x :: y :: t => rises x y && rising (y :: t)
def sumOf (c : ByteArray) : List Leg → Int
  | [] => 0
  | x :: t => (if x.cur = c then x.amount else 0) + sumOf c t
def even (l : List Leg) : Bool := l.all fun x => decide (sumOf x.cur l = 0)
def head (p : Post) : Bool := decide (0 ≤ p.day) && (decide (p.day ≤ 73048) && (decide (1 ≤ p.id) && (decide (p.id ≤ 2147483647) && (decide (2 ≤ p.legs.length) && decide (p.legs.length ≤ 64)))))
def right (p : Post) : Bool := head p && (p.legs.all legOk && (rising p.legs && even p.legs))
/-- A posting's bytes. -/
def encLeg (x : Leg) : List UInt8 := putText x.party.data.toList ++ (putText x.cur.data.toList ++ putInt x.amount)
def encLegs : List Leg → List UInt8
  | [] => []
  | x :: t => encLeg x ++ encLegs t
def enc (p : Post) : List UInt8 := putInt p.day ++ (putInt p.id ++ (putInt p.legs.length ++ encLegs p.legs))
def takeLeg (l : List UInt8) (at' : Nat) : Option (Leg × Nat) :=
  match takeText l at' 24 with
  | none => none
  | some (party, x) =>
    match takeText l x 24 with
    | none => none
    | some (cur, y) =>
      match takeInt l y with
      | none => none
      | some (amount, z) => some (⟨⟨party.toArray⟩, ⟨cur.toArray⟩, amount⟩, z)
def takeLegs : Nat → List UInt8 → Nat → Option (List Leg × Nat)
  | 0, _, at' => some ([], at')
  | k + 1, l, at' =>
    match takeLeg l at' with
    | none => none
    | some (x, z) =>
      match takeLegs k l z with
      | none => none
      | some (r, e) => some (x :: r, e)
def takeHead (l : List UInt8) : Option (Int × Int × Int × Nat) :=
  match takeInt l 0 with
  | none => none
  | some (day, a) =>
    match takeInt l a with
    | none => none
    | some (id, b) =>
      match takeInt l b with
      | none => none
      | some (n, c) => some (day, id, n, c)
def dec (l : List UInt8) : Option Post :=
  match takeHead l with
  | none => none
  | some (day, id, n, c) =>
    if n < 0 ∨ 64 < n then none
    else
      match takeLegs n.toNat l c with
      | none => none
      | some (legs, e) => if e = l.length ∧ right ⟨day, id, legs⟩ = true then some ⟨day, id, legs⟩ else none
/-- What of a leg its bytes keep. -/
structure Fits (x : Leg) : Prop where
  party : x.party.size ≤ 24
  cur : x.cur.size ≤ 24
  lo : -9223372036854775808 ≤ x.amount
  hi : x.amount ≤ 9223372036854775807
theorem ba_list (s : ByteArray) : (⟨s.data.toList.toArray⟩ : ByteArray) = s := by cases s; simp
theorem takeLeg_enc (x : Leg) (hx : Fits x) (pre rest : List UInt8) : takeLeg (pre ++ encLeg x ++ rest) pre.length = some (x, pre.length + (encLeg x).length) := by
  have h1 : x.party.data.toList.length ≤ 24 := by rw [Array.length_toList]; exact hx.party
  have h2 : x.cur.data.toList.length ≤ 24 := by rw [Array.length_toList]; exact hx.cur
  unfold takeLeg encLeg
  rw [show pre ++ (putText x.party.data.toList ++ (putText x.cur.data.toList ++ putInt x.amount)) ++ rest = pre ++ putText x.party.data.toList ++ (putText x.cur.data.toList ++ (putInt x.amount ++ rest)) by simp,
    takeText_put _ _ _ 24 h1 (by omega)]
  simp only []
  rw [show pre ++ putText x.party.data.toList ++ (putText x.cur.data.toList ++ (putInt x.amount ++ rest)) = (pre ++ putText x.party.data.toList) ++ putText x.cur.data.toList ++ (putInt x.amount ++ rest) by simp,
    show pre.length + (putText x.party.data.toList).length = (pre ++ putText x.party.data.toList).length by simp, takeText_put _ _ _ 24 h2 (by omega)]
  simp only []
  rw [show pre ++ putText x.party.data.toList ++ putText x.cur.data.toList ++ (putInt x.amount ++ rest) = (pre ++ putText x.party.data.toList ++ putText x.cur.data.toList) ++ putInt x.amount ++ rest by simp,
    show (pre ++ putText x.party.data.toList).length + (putText x.cur.data.toList).length = (pre ++ putText x.party.data.toList ++ putText x.cur.data.toList).length by simp [Nat.add_assoc], takeInt_put _ hx.lo hx.hi]
  simp only [ba_list, List.length_append, Nat.add_assoc]
theorem takeLegs_enc (legs : List Leg) (h : ∀ x ∈ legs, Fits x) : ∀ pre rest : List UInt8, takeLegs legs.length (pre ++ encLegs legs ++ rest) pre.length = some (legs, pre.length + (encLegs legs).length) := by
  induction legs with
  | nil => intro pre rest; rfl
  | cons x t ih =>
    intro pre rest
    rw [List.length_cons, takeLegs, encLegs, show pre ++ (encLeg x ++ encLegs t) ++ rest = pre ++ encLeg x ++ (encLegs t ++ rest) by simp, takeLeg_enc x (h x (by simp))]
    simp only []
    rw [show pre ++ encLeg x ++ (encLegs t ++ rest) = (pre ++ encLeg x) ++ encLegs t ++ rest by simp, show pre.length + (encLeg x).length = (pre ++ encLeg x).length by simp, ih (fun y hy => h y (by simp [hy]))]
    simp only [List.length_append]
    congr 2; omega
theorem takeLeg_back {l : List UInt8} {at' z : Nat} {x : Leg} (h : takeLeg l at' = some (x, z)) :
    ∃ rest, l.drop at' = encLeg x ++ rest ∧ z = at' + (encLeg x).length ∧ z ≤ l.length ∧ Fits x := by
  unfold takeLeg at h
  cases h1 : takeText l at' 24 with
  | none => rw [h1] at h; cases h
  | some a =>
    obtain ⟨party, x1⟩ := a
    rw [h1] at h
    simp only [] at h
    cases h2 : takeText l x1 24 with
    | none => rw [h2] at h; cases h
    | some b =>
      obtain ⟨cur, y1⟩ := b
      rw [h2] at h
      simp only [] at h
      cases h3 : takeInt l y1 with
      | none => rw [h3] at h; cases h
      | some c =>
        obtain ⟨amount, z1⟩ := c
        rw [h3] at h
        obtain ⟨rfl, rfl⟩ := Prod.mk.inj (Option.some.inj h)
        obtain ⟨r1, e1, f1, g1, k1⟩ := takeText_back h1
        obtain ⟨r2, e2, f2, g2, k2⟩ := takeText_back h2
        obtain ⟨r3, e3, f3, g3, g4, k3⟩ := takeInt_back h3
        have d1 : l.drop x1 = r1 := by rw [f1, ← List.drop_drop, e1, List.drop_left]
        have d2 : l.drop y1 = r2 := by rw [f2, ← List.drop_drop, e2, List.drop_left]
        rw [e3] at d2
        rw [e2] at d1
        refine ⟨r3, ?_, ?_, k3, ⟨?_, ?_, g3, g4⟩⟩
        · unfold encLeg
          dsimp only
          rw [e1, ← d1, ← d2]; simp
        · unfold encLeg
          dsimp only
          rw [List.length_append, List.length_append]; omega
        · show party.toArray.size ≤ 24; rw [List.size_toArray]; exact g1
        · show cur.toArray.size ≤ 24; rw [List.size_toArray]; exact g2
theorem takeLegs_back (l : List UInt8) : ∀ k at' e legs, takeLegs k l at' = some (legs, e) → ∃ rest, l.drop at' = encLegs legs ++ rest ∧ legs.length = k ∧ e = at' + (encLegs legs).length ∧ (e ≤ l.length ∨ k = 0) := by
  intro k
  induction k with
  | zero =>
    intro at' e legs h
    obtain ⟨rfl, rfl⟩ := Prod.mk.inj (Option.some.inj h)
    exact ⟨l.drop at', rfl, rfl, rfl, Or.inr rfl⟩
  | succ k ih =>
    intro at' e legs h
    rw [takeLegs] at h
    cases h1 : takeLeg l at' with
    | none => rw [h1] at h; cases h
    | some a =>
      obtain ⟨x, z⟩ := a
      rw [h1] at h
      simp only [] at h
      cases h2 : takeLegs k l z with
      | none => rw [h2] at h; cases h
      | some b =>
        obtain ⟨r, e'⟩ := b
        rw [h2] at h
        obtain ⟨rfl, rfl⟩ := Prod.mk.inj (Option.some.inj h)
        obtain ⟨r1, e1, f1, g1, _⟩ := takeLeg_back h1
        obtain ⟨r2, e2, f2, f3, g2⟩ := ih z e' r h2
        have d1 : l.drop z = r1 := by rw [f1, ← List.drop_drop, e1, List.drop_left]
        rw [e2] at d1
        refine ⟨r2, by rw [e1, ← d1, encLegs, List.append_assoc], by simp [f2], by rw [encLegs, List.length_append]; omega, ?_⟩
        rcases g2 with g2 | rfl
        · exact Or.inl g2
        · have hr : r = [] := List.length_eq_zero_iff.1 f2
          subst hr
          simp only [encLegs, List.length_nil] at f3
          left; omega
theorem name_len {s : ByteArray} (h : isName s = true) : s.size ≤ 24 := by
  have e : s.data.toList.length = s.size := Array.length_toList
  unfold isName at h
  cases hl : s.data.toList with
  | nil => rw [hl] at e; simp at e; omega
  | cons c t =>
    rw [hl] at h e
    simp only [Bool.and_eq_true, decide_eq_true_eq] at h
    simp at e; omega
theorem cur_len {s : ByteArray} (h : isCur s = true) : s.size = 3 := by
  unfold isCur at h
  simp only [Bool.and_eq_true, decide_eq_true_eq] at h
  exact h.1
theorem legOk_fits {x : Leg} (h : legOk x = true) : Fits x := by
  unfold legOk at h
  simp only [Bool.and_eq_true, decide_eq_true_eq] at h
  obtain ⟨h1, h2, h3, h4, h5⟩ := h
  exact ⟨name_len h1, by have := cur_len h2; omega, by omega, by omega⟩
/-- The parts of 'right'. -/
theorem right_parts {p : Post} (h : right p = true) : head p = true ∧ p.legs.all legOk = true ∧ rising p.legs = true ∧ even p.legs = true := by
  unfold right at h
  simpa only [Bool.and_eq_true] using h
theorem head_parts {p : Post} (h : head p = true) : 0 ≤ p.day ∧ p.day ≤ 73048 ∧ 1 ≤ p.id ∧ p.id ≤ 2147483647 ∧ 2 ≤ p.legs.length ∧ p.legs.length ≤ 64 := by
  unfold head at h
  simpa only [Bool.and_eq_true, decide_eq_true_eq] using h
theorem dec_enc (p : Post) (h : right p = true) : dec (enc p) = some p := by
  obtain ⟨h1, h2, h3, h4⟩ := right_parts h
  obtain ⟨d1, d2, i1, i2, n1, n2⟩ := head_parts h1
  have hf : ∀ x ∈ p.legs, Fits x := fun x hx => legOk_fits (List.all_eq_true.1 h2 x hx)
  have t1 := takeInt_put p.day (by omega) (by omega) [] (putInt p.id ++ (putInt p.legs.length ++ encLegs p.legs))
  have t2 := takeInt_put p.id (by omega) (by omega) (putInt p.day) (putInt p.legs.length ++ encLegs p.legs)
  have t3 := takeInt_put p.legs.length (by omega) (by omega) (putInt p.day ++ putInt p.id) (encLegs p.legs)
  have t4 := takeLegs_enc p.legs hf (putInt p.day ++ putInt p.id ++ putInt p.legs.length) []
  have e1 : ([] : List UInt8) ++ putInt p.day ++ (putInt p.id ++ (putInt p.legs.length ++ encLegs p.legs)) = enc p := by unfold enc; simp
  have e2 : putInt p.day ++ putInt p.id ++ (putInt p.legs.length ++ encLegs p.legs) = enc p := by unfold enc; simp
  have e3 : putInt p.day ++ putInt p.id ++ putInt p.legs.length ++ encLegs p.legs = enc p := by unfold enc; simp
  have e4 : putInt p.day ++ putInt p.id ++ putInt p.legs.length ++ encLegs p.legs ++ [] = enc p := by unfold enc; simp
  rw [e1] at t1
  rw [e2] at t2
  rw [e3] at t3
  rw [e4] at t4
  have hlen : (putInt p.day ++ putInt p.id ++ putInt (p.legs.length : Int)).length + (encLegs p.legs).length = (enc p).length := by unfold enc; simp; omega
  have th : takeHead (enc p) = some (p.day, p.id, (p.legs.length : Int), (putInt p.day ++ putInt p.id ++ putInt (p.legs.length : Int)).length) := by
    unfold takeHead
    rw [show (0 : Nat) = ([] : List UInt8).length from rfl, t1]
    simp only [List.length_nil, Nat.zero_add]
    rw [t2]
    simp only []
    rw [show (putInt p.day).length + (putInt p.id).length = (putInt p.day ++ putInt p.id).length by simp, t3]
    simp only [List.length_append]
  unfold dec
  rw [th]
  simp only []
  rw [if_neg (by omega), Int.toNat_natCast, t4]
  simp only []
  rw [if_pos ⟨hlen, h⟩]
theorem enc_dec {l : List UInt8} {p : Post} (h : dec l = some p) : enc p = l ∧ right p = true := by
  unfold dec at h
  cases h0 : takeHead l with
  | none => rw [h0] at h; cases h
  | some x =>
    obtain ⟨day, id, n, c⟩ := x
    rw [h0] at h
    simp only [] at h
    by_cases hn : n < 0 ∨ 64 < n
    · rw [if_pos hn] at h; cases h
    · rw [if_neg hn] at h
      cases h4 : takeLegs n.toNat l c with
      | none => rw [h4] at h; cases h
      | some y =>
        obtain ⟨legs, e⟩ := y
        rw [h4] at h
        simp only [] at h
        by_cases hc : e = l.length ∧ right ⟨day, id, legs⟩ = true
        · rw [if_pos hc] at h
          obtain rfl := Option.some.inj h
          refine ⟨?_, hc.2⟩
          unfold takeHead at h0
          cases h1 : takeInt l 0 with
          | none => rw [h1] at h0; cases h0
          | some a =>
            obtain ⟨day', a⟩ := a
            rw [h1] at h0
            simp only [] at h0
            cases h2 : takeInt l a with
            | none => rw [h2] at h0; cases h0
            | some b =>
              obtain ⟨id', b⟩ := b
              rw [h2] at h0
              simp only [] at h0
              cases h3 : takeInt l b with
              | none => rw [h3] at h0; cases h0
              | some cc =>
                obtain ⟨n', c'⟩ := cc
                rw [h3] at h0
                simp only [Option.some.injEq, Prod.mk.injEq] at h0
                obtain ⟨rfl, rfl, rfl, rfl⟩ := h0
                obtain ⟨r1, e1, f1, _, _, k1⟩ := takeInt_back h1
                obtain ⟨r2, e2, f2, _, _, k2⟩ := takeInt_back h2
                obtain ⟨r3, e3, f3, _, _, k3⟩ := takeInt_back h3
                obtain ⟨r4, e4, f4, f5, _⟩ := takeLegs_back l _ _ _ _ h4
                have d1 : l.drop a = r1 := by rw [f1, ← List.drop_drop, e1, List.drop_left]
                have d2 : l.drop b = r2 := by rw [f2, ← List.drop_drop, e2, List.drop_left]
                have d3 : l.drop c' = r3 := by rw [f3, ← List.drop_drop, e3, List.drop_left]
                rw [e2] at d1
                rw [e3] at d2
                rw [e4] at d3
                have hr4 : r4 = [] := by
                  have := congrArg List.length e4
                  rw [List.length_drop, List.length_append] at this
                  have h5 := hc.1
                  apply List.length_eq_zero_iff.1
                  omega
                have hn2 : ((legs.length : Nat) : Int) = n' := by rw [f4]; omega
                rw [List.drop_zero] at e1
                unfold enc
                simp only [hn2]
                rw [e1, ← d1, ← d2, ← d3, hr4, List.append_nil]
        · rw [if_neg hc] at h; cases h
end Led
end Go.Proofs.YtbpcgcmlpgdmbaaDoor
