/- Proved: tips in plain words: which are right, their bytes, and that these are read back. No program in sight. -/
import Derived.Test.YtmddaomchhigbaaGreatDoorLedgerPlain
namespace Go.Proofs.YtmddaomchhigbaaGreatDoor
set_option linter.unusedVariables false
set_option linter.unusedSimpArgs false
namespace Orc
open Wire
structure Tip where
  feed : ByteArray
  day : Int
  n : Int
  seq : Int
  tag : ByteArray
/-- Right, but for its tag. -/
def core (t : Tip) : Bool := Led.isName t.feed && (decide (0 ≤ t.day) && (decide (t.day ≤ 73048) && (decide (-1000000000000000 ≤ t.n) && (decide (t.n ≤ 1000000000000000) && (decide (1 ≤ t.seq) && decide (t.seq ≤ 4611686018427387904))))))
def right (t : Tip) : Bool := core t && decide (t.tag.size = 32)
/-- A tip's bytes without its tag. -/
def said (t : Tip) : List UInt8 := 84 :: (putText t.feed.data.toList ++ (putInt t.day ++ (putInt t.n ++ putInt t.seq)))
def enc (t : Tip) : List UInt8 := said t ++ t.tag.data.toList
/-- The tip that bytes spell, whether or not it is right. -/
def spelled (l : List UInt8) : Option Tip :=
  match l with
  | [] => none
  | c :: _ =>
    if c ≠ 84 then none else
    match takeText l 1 24 with
    | none => none
    | some (f, a) =>
      match takeInt l a with
      | none => none
      | some (day, b) =>
        match takeInt l b with
        | none => none
        | some (n, c) =>
          match takeInt l c with
          | none => none
          | some (seq, d) => some ⟨⟨f.toArray⟩, day, n, seq, ⟨(l.drop d).toArray⟩⟩
def dec (l : List UInt8) : Option Tip :=
  match spelled l with
  | none => none
  | some t => if right t = true then some t else none
theorem core_parts {t : Tip} (h : core t = true) : Led.isName t.feed = true ∧ 0 ≤ t.day ∧ t.day ≤ 73048 ∧ -1000000000000000 ≤ t.n ∧ t.n ≤ 1000000000000000 ∧ 1 ≤ t.seq ∧ t.seq ≤ 4611686018427387904 := by
  unfold core at h
  simpa only [Bool.and_eq_true, decide_eq_true_eq] using h
theorem right_core {t : Tip} (h : right t = true) : core t = true ∧ t.tag.size = 32 := by
  unfold right at h
  simpa only [Bool.and_eq_true, decide_eq_true_eq] using h
theorem spelled_enc (t : Tip) (h : core t = true) : spelled (enc t) = some t := by
  obtain ⟨h1, h2, h3, h4, h5, h6, h7⟩ := core_parts h
  have hn := Led.name_len h1
  have hfl : t.feed.data.toList.length = t.feed.size := Array.length_toList
  have t1 := takeText_put t.feed.data.toList [84] (putInt t.day ++ (putInt t.n ++ putInt t.seq) ++ t.tag.data.toList) 24 (by omega) (by omega)
  have t2 := takeInt_put t.day (by omega) (by omega) ([84] ++ putText t.feed.data.toList) (putInt t.n ++ putInt t.seq ++ t.tag.data.toList)
  have t3 := takeInt_put t.n (by omega) (by omega) ([84] ++ putText t.feed.data.toList ++ putInt t.day) (putInt t.seq ++ t.tag.data.toList)
  have t4 := takeInt_put t.seq (by omega) (by omega) ([84] ++ putText t.feed.data.toList ++ putInt t.day ++ putInt t.n) t.tag.data.toList
  have e1 : [84] ++ putText t.feed.data.toList ++ (putInt t.day ++ (putInt t.n ++ putInt t.seq) ++ t.tag.data.toList) = enc t := by unfold enc said; simp
  have e2 : [84] ++ putText t.feed.data.toList ++ putInt t.day ++ (putInt t.n ++ putInt t.seq ++ t.tag.data.toList) = enc t := by unfold enc said; simp
  have e3 : [84] ++ putText t.feed.data.toList ++ putInt t.day ++ putInt t.n ++ (putInt t.seq ++ t.tag.data.toList) = enc t := by unfold enc said; simp
  have e4 : [84] ++ putText t.feed.data.toList ++ putInt t.day ++ putInt t.n ++ putInt t.seq ++ t.tag.data.toList = enc t := by unfold enc said; simp
  rw [e1] at t1
  rw [e2] at t2
  rw [e3] at t3
  rw [e4] at t4
  have hd : (enc t).drop (([84] ++ putText t.feed.data.toList ++ putInt t.day ++ putInt t.n).length + (putInt t.seq).length) = t.tag.data.toList := by
    rw [← e4, ← List.length_append, List.drop_left]
  obtain ⟨r, hr⟩ : ∃ r, enc t = 84 :: r := ⟨_, rfl⟩
  unfold spelled
  rw [hr]
  simp only [ne_eq, not_true_eq_false, if_false]
  rw [← hr]
  rw [show (1 : Nat) = [(84 : UInt8)].length from rfl, t1]
  simp only [← List.length_append, t2, t3, t4]
  rw [← List.length_append] at hd
  rw [hd]
theorem dec_enc (t : Tip) (h : right t = true) : dec (enc t) = some t := by
  unfold dec
  rw [spelled_enc t (right_core h).1]
  simp only [h, if_true]
theorem spelled_back {l : List UInt8} {t : Tip} (h : spelled l = some t) : enc t = l ∧ -9223372036854775808 ≤ t.day ∧ t.day ≤ 9223372036854775807 ∧ -9223372036854775808 ≤ t.n ∧ t.n ≤ 9223372036854775807 ∧ -9223372036854775808 ≤ t.seq ∧ t.seq ≤ 9223372036854775807 ∧ t.feed.size ≤ 24 := by
  unfold spelled at h
  cases l with
  | nil => cases h
  | cons c r =>
    simp only [] at h
    by_cases hc : c = 84
    · subst hc
      simp only [ne_eq, not_true_eq_false, if_false] at h
      generalize hl : (84 : UInt8) :: r = l at *
      cases h1 : takeText l 1 24 with
      | none => rw [h1] at h; cases h
      | some x1 =>
        obtain ⟨f, a⟩ := x1
        rw [h1] at h
        simp only [] at h
        cases h2 : takeInt l a with
        | none => rw [h2] at h; cases h
        | some x2 =>
          obtain ⟨day, b⟩ := x2
          rw [h2] at h
          simp only [] at h
          cases h3 : takeInt l b with
          | none => rw [h3] at h; cases h
          | some x3 =>
            obtain ⟨n, c⟩ := x3
            rw [h3] at h
            simp only [] at h
            cases h4 : takeInt l c with
            | none => rw [h4] at h; cases h
            | some x4 =>
              obtain ⟨seq, d⟩ := x4
              rw [h4] at h
              obtain rfl := Option.some.inj h
              obtain ⟨r1, e1, f1, m1, k1⟩ := takeText_back h1
              obtain ⟨r2, e2, f2, b1, b2, k2⟩ := takeInt_back h2
              obtain ⟨r3, e3, f3, b3, b4, k3⟩ := takeInt_back h3
              obtain ⟨r4, e4, f4, b5, b6, k4⟩ := takeInt_back h4
              have d1 : l.drop a = r1 := by rw [f1, ← List.drop_drop, e1, List.drop_left]
              have d2 : l.drop b = r2 := by rw [f2, ← List.drop_drop, e2, List.drop_left]
              have d3 : l.drop c = r3 := by rw [f3, ← List.drop_drop, e3, List.drop_left]
              have d4 : l.drop d = r4 := by rw [f4, ← List.drop_drop, e4, List.drop_left]
              rw [e2] at d1
              rw [e3] at d2
              rw [e4] at d3
              refine ⟨?_, b1, b2, b3, b4, b5, b6, ?_⟩
              · unfold enc said
                have hl2 : l = 84 :: l.drop 1 := by rw [← hl]; rfl
                simp only [d4]
                rw [hl2, e1, ← d1, ← d2, ← d3]
                simp
              · show f.toArray.size ≤ 24
                rw [List.size_toArray]; exact m1
    · rw [if_pos hc] at h; cases h
theorem enc_dec {l : List UInt8} {t : Tip} (h : dec l = some t) : enc t = l ∧ right t = true := by
  unfold dec at h
  cases hs : spelled l with
  | none => rw [hs] at h; cases h
  | some u =>
    rw [hs] at h
    simp only [] at h
    split at h
    · rename_i hr
      obtain rfl := Option.some.inj h
      exact ⟨(spelled_back hs).1, hr⟩
    · cases h
end Orc
end Go.Proofs.YtmddaomchhigbaaGreatDoor
