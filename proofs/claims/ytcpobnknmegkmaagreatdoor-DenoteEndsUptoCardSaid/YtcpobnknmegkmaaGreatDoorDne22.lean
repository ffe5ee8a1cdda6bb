/- Proved: lemmas and contracts of the functions that the law reaches, part 22 of 28: OptPlain, OptStep, OptNorm, OptMeas, OptRef3, OptTypeP. Conditions: as each states. -/
import Derived.OwnWalk
import Derived.Test.YtcpobnknmegkmaaGreatDoorDne8
import Derived.Test.YtcpobnknmegkmaaGreatDoorDne20
import Derived.Test.YtcpobnknmegkmaaGreatDoorDne21
namespace Go.Proofs.YtcpobnknmegkmaaGreatDoor
open Go.RowKit
set_option linter.unusedVariables false
set_option linter.unusedSimpArgs false
namespace Co
def leaf (op n : Int) : T := .mk op n ⟨#[]⟩ []
def isC (t : T) : Bool := t.op == 1 || t.op == 2 || t.op == 3
def isNum (t : T) (n : Int) : Bool := t.op == 1 && t.n == n
def isBool (t : T) (n : Int) : Bool := t.op == 2 && t.n == n
def T.kid (t : T) (i : Nat) : T := (t.ks[i]?).getD default
def kidN (t : T) (i : Nat) : Int := ((t.ks[i]?).map T.n).getD 0
def tr (b : Bool) : Int := if b then 1 else 0
def foldOp (op a b : Int) : Option T :=
  if op = 6 then some (leaf 1 (Num.neg a))
  else if op = 7 then some (leaf 1 (Num.add a b))
  else if op = 8 then some (leaf 1 (Num.sub a b))
  else if op = 9 then some (leaf 1 (Num.mul a b))
  else if op = 10 then some (leaf 1 (Num.div a b))
  else if op = 20 then some (leaf 1 (Dt.years a b))
  else if op = 21 then some (leaf 1 (Dt.years30 a b))
  else if op = 14 then some (leaf 2 (tr (decide (a = 0))))
  else if op = 11 ∨ op = 17 then some (leaf 2 (tr (decide (a < b))))
  else if op = 12 then some (leaf 2 (tr (decide (a ≤ b))))
  else if op = 13 then some (leaf 2 (tr (decide (a = b))))
  else if op = 18 then some (leaf 3 (Dt.plus a (Num.whole b)))
  else if op = 19 then some (leaf 3 (Dt.months a (Num.whole b)))
  else none
def fold (t : T) : Option T := if t.ks.length ≤ 2 ∧ t.ks.all isC = true then foldOp t.op (kidN t 0) (kidN t 1) else none
def twice (t : T) : Option T := if (t.op = 6 ∨ t.op = 14 ∨ t.op = 25) ∧ (t.kid 0).op = t.op then some ((t.kid 0).kid 0) else none
/-- Which does nothing: the right one, the left one. -/
def idleL (op : Int) (a b : T) : Bool :=
  if op = 7 then isNum a 0 else if op = 9 then isNum a 1000000 else if op = 15 then isBool a 1 else if op = 16 then isBool a 0 else if op = 27 then a.op == 23
  else if op = 26 then isNum a 1000000 || (a.op == 1 && b.op == 23) else false
def idleR (op : Int) (a b : T) : Bool :=
  if op = 7 then isNum b 0 else if op = 8 then isNum b 0 else if op = 9 then isNum b 1000000 else if op = 10 then isNum b 1000000 else if op = 15 then isBool b 1 else if op = 16 then isBool b 0 else if op = 27 then b.op == 23
  else false
def idle (t : T) : Option T := if t.ks.length = 2 then (if idleL t.op (t.kid 0) (t.kid 1) = true then some (t.kid 1) else if idleR t.op (t.kid 0) (t.kid 1) = true then some (t.kid 0) else none) else none
def settled (t : T) : Option T := if (t.op = 15 ∧ isBool (t.kid 0) 0 = true) ∨ (t.op = 16 ∧ isBool (t.kid 0) 1 = true) ∨ (t.op = 25 ∧ (t.kid 0).op = 23) then some (t.kid 0) else none
def later (t : T) : Option T := if t.op = 29 ∧ (t.kid 0).op = 29 then some (.mk 29 (max t.n (t.kid 0).n) ⟨#[]⟩ (t.kid 0).ks) else none
def chosen (t : T) : Option T := if (t.op = 22 ∨ t.op = 28) ∧ (t.kid 0).op = 2 then some (t.kid (2 - (t.kid 0).n).toNat) else none
def never (t : T) : Option T := if t.op = 30 ∧ isBool (t.kid 0) 0 = true ∧ (t.kid 1).op ≠ 23 then some (.mk 30 t.n ⟨#[]⟩ [t.kid 0, leaf 23 0]) else none
/-- The rules, by their places. -/
def rule (i : Nat) (t : T) : Option T :=
  match i with
  | 0 => fold t
  | 1 => twice t
  | 2 => idle t
  | 3 => settled t
  | 4 => later t
  | 5 => chosen t
  | 6 => never t
  | _ => none
def meas (t : T) : Nat := 2 * t.size - (if t.op = 30 ∧ (t.kid 1).op = 23 then 1 else 0)
/-- What a rule makes of a right term. -/
structure Step (t u : T) : Prop where
  letter : u.letter = t.letter
  meas : meas u < meas t
  size : u.size ≤ t.size
  depth : u.depth ≤ t.depth
  nodes : ∀ x ∈ u.nodes, x ∈ t.nodes ∨ x.1 = 1 ∨ x.1 = 2 ∨ x.1 = 3 ∨ x.1 = 23
  kids : ∀ P : T → Prop, (∀ k ∈ t.ks, P k) → (∀ k : T, P k → ∀ j ∈ k.ks, P j) → P (leaf 23 0) → ∀ k ∈ u.ks, P k
/-- A term's kid, or its kid's. -/
structure Sub (t u : T) : Prop where
  size : u.size < t.size
  depth : u.depth ≤ t.depth
  nodes : ∀ x ∈ u.nodes, x ∈ t.nodes
  kids : ∀ P : T → Prop, (∀ k ∈ t.ks, P k) → (∀ k : T, P k → ∀ j ∈ k.ks, P j) → P u
theorem sub_kid {t k : T} (h : k ∈ t.ks) : Sub t k := by
  obtain ⟨o, n, s, ks⟩ := t
  have h' : k ∈ ks := h
  refine ⟨?_, ?_, fun x hx => ?_, fun P h1 h2 => h1 k h⟩
  · have := sizes_mem h'; rw [T.size]; omega
  · have := depths_mem h'; rw [T.depth]; omega
  · rw [T.nodes]; exact List.mem_cons_of_mem _ (mem_nodess.2 ⟨k, h', hx⟩)
theorem Sub.trans {t u v : T} (h : Sub t u) (k : Sub u v) : Sub t v :=
  ⟨Nat.lt_trans k.size h.size, Nat.le_trans k.depth h.depth, fun x hx => h.nodes x (k.nodes x hx), fun P h1 h2 => k.kids P (h2 u (h.kids P h1 h2)) h2⟩
theorem meas_le (t : T) : meas t ≤ 2 * t.size := Nat.sub_le _ _
theorem meas_ge (t : T) : 2 * t.size - 1 ≤ meas t := by unfold meas; split <;> omega
theorem Sub.step {t u : T} (h : Sub t u) (hl : u.letter = t.letter) : Step t u := by
  refine ⟨hl, ?_, Nat.le_of_lt h.size, h.depth, fun x hx => .inl (h.nodes x hx), fun P h1 h2 h3 => h2 u (h.kids P h1 h2)⟩
  have := meas_le u
  have := meas_ge t
  have := h.size
  omega
theorem leaf_step {t : T} {op n : Int} (hs : 2 ≤ t.size) (ho : op = 1 ∨ op = 2 ∨ op = 3) (hl : (leaf op n).letter = t.letter) : Step t (leaf op n) := by
  have e : (leaf op n).size = 1 := rfl
  have hd : (leaf op n).depth = 1 := rfl
  refine ⟨hl, ?_, by omega, by rw [hd]; exact depth_pos t, fun x hx => ?_, fun P h1 h2 h3 k hk => by cases hk⟩
  · have := meas_le (leaf op n)
    have := meas_ge t
    omega
  · have hx' : x ∈ [(op, n)] := hx
    rw [List.mem_singleton] at hx'
    subst hx'
    right
    rcases ho with h | h | h
    · exact .inl h
    · exact .inr (.inl h)
    · exact .inr (.inr (.inl h))
theorem neg_in (a : Int) : -1000000000000000 ≤ Num.neg a ∧ Num.neg a ≤ 1000000000000000 := by
  have h1 := Num.clamp_le a
  have h2 := Num.clamp_ge a
  unfold Num.neg; omega
theorem sgn_in (b : Bool) (n : Nat) (h : n ≤ 1000000000000000) : -1000000000000000 ≤ Num.sgn b n ∧ Num.sgn b n ≤ 1000000000000000 := by
  cases b <;> simp [Num.sgn] <;> omega
theorem scl_top (x y d : Nat) : Num.scl x y d ≤ 1000000000000000 := by
  unfold Num.scl; split <;> omega
theorem mul_in (a b : Int) : -1000000000000000 ≤ Num.mul a b ∧ Num.mul a b ≤ 1000000000000000 := sgn_in _ _ (scl_top _ _ _)
theorem div_in (a b : Int) : -1000000000000000 ≤ Num.div a b ∧ Num.div a b ≤ 1000000000000000 := by
  unfold Num.div
  split
  · omega
  · exact sgn_in _ _ (scl_top _ _ _)
theorem add_in (a b : Int) : -1000000000000000 ≤ Num.add a b ∧ Num.add a b ≤ 1000000000000000 := ⟨Num.clamp_ge _, Num.clamp_le _⟩
theorem sub_in (a b : Int) : -1000000000000000 ≤ Num.sub a b ∧ Num.sub a b ≤ 1000000000000000 := ⟨Num.clamp_ge _, Num.clamp_le _⟩
theorem years_in (a b : Int) : -1000000000000000 ≤ Dt.years a b ∧ Dt.years a b ≤ 1000000000000000 := by
  unfold Dt.years Dt.ratio
  exact div_in _ _
theorem years30_in (a b : Int) : -1000000000000000 ≤ Dt.years30 a b ∧ Dt.years30 a b ≤ 1000000000000000 := by
  unfold Dt.years30 Dt.ratio
  exact div_in _ _
theorem tr_in (b : Bool) : 0 ≤ tr b ∧ tr b ≤ 1 := by cases b <;> simp [tr]
theorem plus_in (a b : Int) : 0 ≤ Dt.plus a b ∧ Dt.plus a b ≤ 73048 := ⟨Dt.clamp_ge _, Dt.clamp_le _⟩
theorem sumTo_12 (y : Int) : Dt.sumTo (Dt.feb y) 12 = Dt.days y := by
  unfold Dt.feb Dt.days
  split <;> rfl
theorem sumTo_top (y : Int) (i : Nat) (h : i < 12) : Dt.sumTo (Dt.feb y) i + ((Dt.lens (Dt.feb y))[i]?).getD 0 ≤ Dt.days y := by
  rw [← sumTo_12 y]
  have := Dt.feb_in y
  rcases (by omega : i = 0 ∨ i = 1 ∨ i = 2 ∨ i = 3 ∨ i = 4 ∨ i = 5 ∨ i = 6 ∨ i = 7 ∨ i = 8 ∨ i = 9 ∨ i = 10 ∨ i = 11) with rfl | rfl | rfl | rfl | rfl | rfl | rfl | rfl | rfl | rfl | rfl | rfl <;> simp [Dt.sumTo, Dt.lens] <;> omega
theorem ahead_days {y : Int} (h : 1900 ≤ y) (h2 : y ≤ 2099) : Dt.ahead y + Dt.days y ≤ 73049 := by
  by_cases h3 : y ≤ 2098
  · unfold Dt.ahead Dt.days
    split <;> omega
  · obtain rfl : y = 2099 := by omega
    decide
theorem ofD_in {y d : Int} {i : Nat} (h : 1900 ≤ y) (h2 : y ≤ 2099) (hi : i < 12) : 0 ≤ Dt.ofD y i d ∧ Dt.ofD y i d ≤ 73048 := by
  unfold Dt.ofD
  split
  · omega
  · rename_i hn
    have h3 := Dt.ahead_in h (by omega)
    have h4 := ahead_days h h2
    have h5 := sumTo_top y i hi
    have h6 := Dt.sumTo_in y i (by omega)
    omega
theorem months_in (a b : Int) : 0 ≤ Dt.months a b ∧ Dt.months a b ≤ 73048 := by
  unfold Dt.months
  split
  · omega
  · split
    · omega
    · exact ofD_in (by omega) (by omega) (by omega)
theorem num_leaf {n : Int} (h : -1000000000000000 ≤ n ∧ n ≤ 1000000000000000) : (leaf 1 n).letter = 110 := letter_of (by decide) want_1 (fields_num h)
theorem bool_leaf {n : Int} (h : 0 ≤ n ∧ n ≤ 1) : (leaf 2 n).letter = 98 := letter_of (by decide) want_2 (fields_bool h)
theorem day_leaf {n : Int} (h : 0 ≤ n ∧ n ≤ 73048) : (leaf 3 n).letter = 100 := letter_of (by decide) want_3 (fields_day (.inl rfl) h)
theorem zero_leaf : (leaf 23 0).letter = 99 := letter_of (by decide) want_23 fields_zero
/-- What a fold gives. -/
theorem foldOp_letter {op a b : Int} {u : T} (h : foldOp op a b = some u) {l : List UInt8} {x : UInt8} (hw : want op = some (l, x)) : ∃ o n, u = leaf o n ∧ (o = 1 ∨ o = 2 ∨ o = 3) ∧ u.letter = x := by
  rcases op_cases (want_in hw) with rfl | rfl | rfl | rfl | rfl | rfl | rfl | rfl | rfl | rfl | rfl | rfl | rfl | rfl | rfl | rfl | rfl | rfl | rfl | rfl | rfl | rfl | rfl | rfl | rfl | rfl | rfl | rfl | rfl | rfl | rfl
  all_goals first | (exfalso; simp [foldOp] at h; done) | skip
  all_goals simp [foldOp] at h
  all_goals subst h
  all_goals simp only [want_6, want_7, want_8, want_9, want_10, want_11, want_12, want_13, want_14, want_17, want_18, want_19, want_20, want_21] at hw
  all_goals cases hw
  all_goals with_reducible first
    | exact ⟨_, _, rfl, .inl rfl, num_leaf (neg_in _)⟩
    | exact ⟨_, _, rfl, .inl rfl, num_leaf (mul_in _ _)⟩
    | exact ⟨_, _, rfl, .inl rfl, num_leaf (div_in _ _)⟩
    | exact ⟨_, _, rfl, .inl rfl, num_leaf (add_in _ _)⟩
    | exact ⟨_, _, rfl, .inl rfl, num_leaf (sub_in _ _)⟩
    | exact ⟨_, _, rfl, .inl rfl, num_leaf (years_in _ _)⟩
    | exact ⟨_, _, rfl, .inl rfl, num_leaf (years30_in _ _)⟩
    | exact ⟨_, _, rfl, .inr (.inl rfl), bool_leaf (tr_in _)⟩
    | exact ⟨_, _, rfl, .inr (.inr rfl), day_leaf (plus_in _ _)⟩
    | exact ⟨_, _, rfl, .inr (.inr rfl), day_leaf (months_in _ _)⟩
end Co
end Go.Proofs.YtcpobnknmegkmaaGreatDoor
namespace Go.Proofs.YtcpobnknmegkmaaGreatDoor
open Go.RowKit
set_option linter.unusedVariables false
set_option linter.unusedSimpArgs false
namespace Co
theorem ne_22 {t : T} {op : Int} (h : t.op = op) (h2 : op ≠ 22) : t.op ≠ 22 := h ▸ h2
/-- The kids' letters of a right term. -/
theorem open_kids {t : T} {l : List UInt8} {r : UInt8} (ho : t.op ≠ 22) (hw : want t.op = some (l, r)) (hx : t.letter ≠ 0) : t.ks.map T.letter = l ∧ t.letter = r ∧ fields t.op t.n t.s = true := by
  obtain ⟨op, n, s, ks⟩ := t
  obtain ⟨h1, h2⟩ := letter_inv rfl hx ho
  have hw' : want op = some (l, r) := hw
  rw [hw'] at h1
  simp only [Option.some.injEq, Prod.mk.injEq] at h1
  exact ⟨h1.1.symm, h1.2.symm, h2⟩
theorem one_kid {t : T} {a : UInt8} (h : t.ks.map T.letter = [a]) : ∃ k, t.ks = [k] ∧ k.letter = a ∧ t.kid 0 = k := by
  match hk : t.ks with
  | [k] => rw [hk] at h; exact ⟨k, rfl, by simpa using h, by simp [T.kid, hk]⟩
  | [] => rw [hk] at h; cases h
  | _ :: _ :: _ => rw [hk] at h; simp at h
theorem two_kids {t : T} {a b : UInt8} (h : t.ks.map T.letter = [a, b]) : ∃ k j, t.ks = [k, j] ∧ (k.letter = a ∧ j.letter = b) ∧ t.kid 0 = k ∧ t.kid 1 = j := by
  match hk : t.ks with
  | [k, j] => rw [hk] at h; exact ⟨k, j, rfl, by simpa using h, by simp [T.kid, hk], by simp [T.kid, hk]⟩
  | [] => rw [hk] at h; cases h
  | [_] => rw [hk] at h; simp at h
  | _ :: _ :: _ :: _ => rw [hk] at h; simp at h
theorem three_kids {t : T} {a b c : UInt8} (h : t.ks.map T.letter = [a, b, c]) : ∃ k j i, t.ks = [k, j, i] ∧ (k.letter = a ∧ j.letter = b ∧ i.letter = c) ∧ t.kid 0 = k ∧ t.kid 1 = j ∧ t.kid 2 = i := by
  match hk : t.ks with
  | [k, j, i] => rw [hk] at h; exact ⟨k, j, i, rfl, by simpa using h, by simp [T.kid, hk], by simp [T.kid, hk], by simp [T.kid, hk]⟩
  | [] => rw [hk] at h; cases h
  | [_] => rw [hk] at h; simp at h
  | [_, _] => rw [hk] at h; simp at h
  | _ :: _ :: _ :: _ :: _ => rw [hk] at h; simp at h
theorem size_two {t : T} (h : t.ks ≠ []) : 2 ≤ t.size := by
  obtain ⟨o, n, s, ks⟩ := t
  match ks, h with
  | k :: r, _ =>
    have := size_pos k
    rw [T.size, sizes]
    omega
theorem twice_step {t u : T} (h : twice t = some u) (hx : t.letter ≠ 0) : Step t u := by
  unfold twice at h
  split at h
  · rename_i hc
    obtain ⟨ho, hk⟩ := hc
    cases h
    have go : ∀ (op : Int) (a : UInt8), op ≠ 22 → want op = some ([a], a) → a ≠ 0 → t.op = op → Step t ((t.kid 0).kid 0) := by
      intro op a h22 hw ha e
      obtain ⟨h1, h2, -⟩ := open_kids (t := t) (by rw [e]; exact h22) (by rw [e]; exact hw) hx
      obtain ⟨k, hk1, hk2, hk3⟩ := one_kid h1
      rw [hk3] at hk ⊢
      obtain ⟨h3, h4, -⟩ := open_kids (t := k) (by rw [hk, e]; exact h22) (by rw [hk, e]; exact hw) (by rw [hk2]; exact ha)
      obtain ⟨j, hj1, hj2, hj3⟩ := one_kid h3
      rw [hj3]
      refine ((sub_kid (t := t) (k := k) (by rw [hk1]; simp)).trans (sub_kid (t := k) (k := j) (by rw [hj1]; simp))).step ?_
      rw [h2, hj2]
    rcases ho with e | e | e
    · exact go 6 110 (by decide) want_6 (by decide) e
    · exact go 14 98 (by decide) want_14 (by decide) e
    · exact go 25 99 (by decide) want_25 (by decide) e
  · cases h
theorem fold_step {t u : T} (h : fold t = some u) (hx : t.letter ≠ 0) : Step t u := by
  unfold fold at h
  split at h
  · by_cases h22 : t.op = 22
    · rw [h22] at h
      simp [foldOp] at h
    · obtain ⟨op, n, s, ks⟩ := t
      obtain ⟨h1, h2⟩ := letter_inv rfl hx h22
      obtain ⟨o, m, rfl, ho, hl⟩ := foldOp_letter h h1
      refine leaf_step (size_two ?_) ho hl
      intro e
      have e' : ks = [] := e
      subst e'
      rcases op_cases (want_in h1) with rfl | rfl | rfl | rfl | rfl | rfl | rfl | rfl | rfl | rfl | rfl | rfl | rfl | rfl | rfl | rfl | rfl | rfl | rfl | rfl | rfl | rfl | rfl | rfl | rfl | rfl | rfl | rfl | rfl | rfl | rfl
      all_goals first
        | (simp [foldOp, T.op] at h; done)
        | (simp [want_6, want_7, want_8, want_9, want_10, want_11, want_12, want_13, want_14, want_17, want_18, want_19, want_20, want_21] at h1; done)
  · cases h
theorem idle_step {t u : T} (h : idle t = some u) (hx : t.letter ≠ 0) : Step t u := by
  unfold idle at h
  split at h
  · rename_i hlen
    obtain ⟨a, b, hk⟩ : ∃ a b, t.ks = [a, b] := by
      match hk : t.ks with
      | [a, b] => exact ⟨a, b, rfl⟩
      | [] => rw [hk] at hlen; cases hlen
      | [_] => rw [hk] at hlen; simp at hlen
      | _ :: _ :: _ :: _ => rw [hk] at hlen; simp at hlen
    have ka : t.kid 0 = a := by simp [T.kid, hk]
    have kb : t.kid 1 = b := by simp [T.kid, hk]
    rw [ka, kb] at h
    have hsa : Sub t a := sub_kid (by rw [hk]; simp)
    have hsb : Sub t b := sub_kid (by rw [hk]; simp)
    have same : ∀ (op : Int) (x : UInt8), op ≠ 22 → want op = some ([x, x], x) → t.op = op → a.letter = t.letter ∧ b.letter = t.letter := by
      intro op x h22 hw e
      obtain ⟨h1, h2, -⟩ := open_kids (t := t) (by rw [e]; exact h22) (by rw [e]; exact hw) hx
      rw [hk] at h1
      simp at h1
      rw [h2]
      exact h1
    have scale : t.op = 26 → b.letter = t.letter := by
      intro e
      obtain ⟨h1, h2, -⟩ := open_kids (t := t) (by rw [e]; decide) (by rw [e]; exact want_26) hx
      rw [hk] at h1
      simp at h1
      rw [h2]
      exact h1.2
    split at h
    · rename_i hl
      cases h
      refine hsb.step ?_
      unfold idleL at hl
      split at hl
      · rename_i e; exact (same 7 110 (by decide) want_7 e).2
      split at hl
      · rename_i e; exact (same 9 110 (by decide) want_9 e).2
      split at hl
      · rename_i e; exact (same 15 98 (by decide) want_15 e).2
      split at hl
      · rename_i e; exact (same 16 98 (by decide) want_16 e).2
      split at hl
      · rename_i e; exact (same 27 99 (by decide) want_27 e).2
      split at hl
      · rename_i e; exact scale e
      · cases hl
    · split at h
      · rename_i hr
        cases h
        refine hsa.step ?_
        unfold idleR at hr
        split at hr
        · rename_i e; exact (same 7 110 (by decide) want_7 e).1
        split at hr
        · rename_i e; exact (same 8 110 (by decide) want_8 e).1
        split at hr
        · rename_i e; exact (same 9 110 (by decide) want_9 e).1
        split at hr
        · rename_i e; exact (same 10 110 (by decide) want_10 e).1
        split at hr
        · rename_i e; exact (same 15 98 (by decide) want_15 e).1
        split at hr
        · rename_i e; exact (same 16 98 (by decide) want_16 e).1
        split at hr
        · rename_i e; exact (same 27 99 (by decide) want_27 e).1
        · cases hr
      · cases h
  · cases h
theorem settled_step {t u : T} (h : settled t = some u) (hx : t.letter ≠ 0) : Step t u := by
  unfold settled at h
  split at h
  · rename_i hc
    cases h
    rcases hc with ⟨e, -⟩ | ⟨e, -⟩ | ⟨e, -⟩
    · obtain ⟨h1, h2, -⟩ := open_kids (t := t) (by rw [e]; decide) (by rw [e]; exact want_15) hx
      obtain ⟨k, j, hk1, hk2, hk3, -⟩ := two_kids h1
      rw [hk3]
      exact (sub_kid (t := t) (k := k) (by rw [hk1]; simp)).step (by rw [h2, hk2.1])
    · obtain ⟨h1, h2, -⟩ := open_kids (t := t) (by rw [e]; decide) (by rw [e]; exact want_16) hx
      obtain ⟨k, j, hk1, hk2, hk3, -⟩ := two_kids h1
      rw [hk3]
      exact (sub_kid (t := t) (k := k) (by rw [hk1]; simp)).step (by rw [h2, hk2.1])
    · obtain ⟨h1, h2, -⟩ := open_kids (t := t) (by rw [e]; decide) (by rw [e]; exact want_25) hx
      obtain ⟨k, hk1, hk2, hk3⟩ := one_kid h1
      rw [hk3]
      exact (sub_kid (t := t) (k := k) (by rw [hk1]; simp)).step (by rw [h2, hk2])
  · cases h
theorem later_step {t u : T} (h : later t = some u) (hx : t.letter ≠ 0) : Step t u := by
  unfold later at h
  split at h
  · rename_i hc
    obtain ⟨e, e2⟩ := hc
    cases h
    obtain ⟨h1, h2, h3⟩ := open_kids (t := t) (by rw [e]; decide) (by rw [e]; exact want_29) hx
    obtain ⟨k, hk1, hk2, hk3⟩ := one_kid h1
    rw [hk3] at e2 ⊢
    obtain ⟨h4, h5, h6⟩ := open_kids (t := k) (by rw [e2]; decide) (by rw [e2]; exact want_29) (by rw [hk2]; decide)
    obtain ⟨j, hj1, hj2, hj3⟩ := one_kid h4
    rw [e] at h3
    rw [e2] at h6
    have d1 := day_of (.inr (.inl rfl)) h3
    have d2 := day_of (.inr (.inl rfl)) h6
    have hl : (T.mk 29 (max t.n k.n) ⟨#[]⟩ k.ks).letter = t.letter := by
      rw [h2]
      refine letter_of (by decide) ?_ (fields_day (.inr (.inl rfl)) (by omega))
      rw [hj1, want_29]
      simp [hj2]
    obtain ⟨o, n, s, ks⟩ := t
    obtain ⟨o2, n2, s2, ks2⟩ := k
    have ek : ks = [T.mk o2 n2 s2 ks2] := hk1
    subst ek
    have ee : o = 29 := e
    have ee2 : o2 = 29 := e2
    subst ee ee2
    refine ⟨hl, ?_, ?_, ?_, fun x hx => ?_, fun P h1 h2 h3 k hk => ?_⟩
    · have a1 := meas_le (T.mk 29 (max n n2) ⟨#[]⟩ ks2)
      have a2 := meas_ge (T.mk 29 n s [T.mk 29 n2 s2 ks2])
      have a3 : (T.mk 29 (max n n2) ⟨#[]⟩ ks2).size = 1 + sizes ks2 := by rw [T.size]
      have a4 : (T.mk 29 n s [T.mk 29 n2 s2 ks2]).size = 1 + (1 + sizes ks2 + 0) := by rw [T.size, sizes, sizes, T.size]
      show meas (T.mk 29 (max n n2) ⟨#[]⟩ ks2) < _
      omega
    · show (T.mk 29 (max n n2) ⟨#[]⟩ ks2).size ≤ _
      rw [T.size, T.size, sizes, T.size]
      omega
    · show (T.mk 29 (max n n2) ⟨#[]⟩ ks2).depth ≤ _
      rw [T.depth, T.depth, depths, T.depth]
      omega
    · have hx' : x ∈ (29, max n n2) :: nodess ks2 := hx
      have e : (T.mk 29 n s [T.mk 29 n2 s2 ks2]).nodes = (29, n) :: (((29, n2) :: nodess ks2) ++ []) := by rw [T.nodes, nodess, T.nodes, nodess]
      rw [e]
      left
      rcases List.mem_cons.1 hx' with rfl | hx'
      · rcases (by omega : max n n2 = n ∨ max n n2 = n2) with h | h <;> rw [h] <;> simp
      · simp [hx']
    · exact h2 (T.mk 29 n2 s2 ks2) (h1 _ (by show _ ∈ [_]; simp)) k hk
  · cases h
theorem chosen_step {t u : T} (h : chosen t = some u) (hx : t.letter ≠ 0) : Step t u := by
  unfold chosen at h
  split at h
  · rename_i hc
    obtain ⟨ho, e2⟩ := hc
    cases h
    have h3 : ∃ k j i, t.ks = [k, j, i] ∧ (k.letter = 98 ∧ j.letter = t.letter ∧ i.letter = t.letter) ∧ t.kid 0 = k ∧ t.kid 1 = j ∧ t.kid 2 = i := by
      rcases ho with e | e
      · obtain ⟨o, n, s, ks⟩ := t
        have ee : o = 22 := e
        subst ee
        obtain ⟨a, b, c, rfl, l1, l2, l3, -, -⟩ := (letter_22 hx).1 rfl
        exact ⟨a, b, c, rfl, ⟨l1, l2, l3⟩, rfl, rfl, rfl⟩
      · obtain ⟨h1, h2, -⟩ := open_kids (t := t) (by rw [e]; decide) (by rw [e]; exact want_28) hx
        obtain ⟨k, j, i, a1, a2, a3, a4, a5⟩ := three_kids h1
        exact ⟨k, j, i, a1, by rw [h2]; exact a2, a3, a4, a5⟩
    obtain ⟨k, j, i, a1, ⟨l1, l2, l3⟩, a3, a4, a5⟩ := h3
    rw [a3] at e2 ⊢
    obtain ⟨-, -, hf⟩ := open_kids (t := k) (by rw [e2]; decide) (by rw [e2]; exact want_2) (by rw [l1]; decide)
    rw [e2] at hf
    rcases bool_of hf with e | e
    · rw [e]
      show Step t (t.kid 2)
      rw [a5]
      exact (sub_kid (t := t) (k := i) (by rw [a1]; simp)).step l3
    · rw [e]
      show Step t (t.kid 1)
      rw [a4]
      exact (sub_kid (t := t) (k := j) (by rw [a1]; simp)).step l2
  · cases h
theorem never_step {t u : T} (h : never t = some u) (hx : t.letter ≠ 0) : Step t u := by
  unfold never at h
  split at h
  · rename_i hc
    obtain ⟨e, hb, hz⟩ := hc
    cases h
    obtain ⟨h1, h2, h3⟩ := open_kids (t := t) (by rw [e]; decide) (by rw [e]; exact want_30) hx
    obtain ⟨k, j, hk1, hk2, hk3, hk4⟩ := two_kids h1
    rw [hk4] at hz
    rw [hk3] at hb ⊢
    rw [e] at h3
    have hl : (T.mk 30 t.n ⟨#[]⟩ [k, leaf 23 0]).letter = t.letter := by
      rw [h2]
      refine letter_of (by decide) ?_ (fields_day (.inr (.inr rfl)) (day_of (.inr (.inr rfl)) h3))
      rw [want_30]
      simp [hk2.1, zero_leaf]
    obtain ⟨o, n, s, ks⟩ := t
    have ek : ks = [k, j] := hk1
    subst ek
    have ee : o = 30 := e
    subst ee
    have p1 := size_pos j
    have z1 : (leaf 23 0).size = 1 := rfl
    have z2 : (leaf 23 0).depth = 1 := rfl
    have p2 := depth_pos j
    have s1 : (T.mk 30 n ⟨#[]⟩ [k, leaf 23 0]).size = 1 + (k.size + (1 + 0)) := by rw [T.size, sizes, sizes, sizes, z1]
    have s2 : (T.mk 30 n s [k, j]).size = 1 + (k.size + (j.size + 0)) := by rw [T.size, sizes, sizes, sizes]
    refine ⟨hl, ?_, ?_, ?_, fun x hx => ?_, fun P h1 h2 h3 q hq => ?_⟩
    · have m1 : meas (T.mk 30 n ⟨#[]⟩ [k, leaf 23 0]) = 2 * (T.mk 30 n ⟨#[]⟩ [k, leaf 23 0]).size - 1 := by
        unfold meas
        rw [if_pos ⟨rfl, rfl⟩]
      have m2 : meas (T.mk 30 n s [k, j]) = 2 * (T.mk 30 n s [k, j]).size := by
        unfold meas
        rw [if_neg (fun h => hz h.2)]
        rfl
      show meas (T.mk 30 n ⟨#[]⟩ [k, leaf 23 0]) < _
      rw [m1, m2]
      omega
    · show (T.mk 30 n ⟨#[]⟩ [k, leaf 23 0]).size ≤ _
      omega
    · show (T.mk 30 n ⟨#[]⟩ [k, leaf 23 0]).depth ≤ _
      rw [T.depth, T.depth, depths, depths, depths, depths, depths, z2]
      omega
    · have hx' : x ∈ (T.mk 30 n ⟨#[]⟩ [k, leaf 23 0]).nodes := hx
      have e1 : (T.mk 30 n ⟨#[]⟩ [k, leaf 23 0]).nodes = (30, n) :: (k.nodes ++ [(23, 0)]) := by rw [T.nodes, nodess, nodess, nodess]; rfl
      have e2 : (T.mk 30 n s [k, j]).nodes = (30, n) :: (k.nodes ++ (j.nodes ++ [])) := by rw [T.nodes, nodess, nodess, nodess]
      rw [e1] at hx'
      rw [e2]
      rcases List.mem_cons.1 hx' with rfl | hx'
      · left; simp
      · rcases List.mem_append.1 hx' with hx' | hx'
        · left; simp [hx']
        · rw [List.mem_singleton] at hx'
          subst hx'
          exact .inr (.inr (.inr (.inr rfl)))
    · have hq' : q ∈ [k, leaf 23 0] := hq
      simp only [List.mem_cons, List.not_mem_nil, or_false] at hq'
      rcases hq' with rfl | rfl
      · exact h1 _ (by show _ ∈ [_, _]; simp)
      · exact h3
  · cases h
theorem rule_step {i : Nat} {t u : T} (h : rule i t = some u) (hx : t.letter ≠ 0) : Step t u := by
  unfold rule at h
  split at h
  · exact fold_step h hx
  · exact twice_step h hx
  · exact idle_step h hx
  · exact settled_step h hx
  · exact later_step h hx
  · exact chosen_step h hx
  · exact never_step h hx
  · cases h
end Co
end Go.Proofs.YtcpobnknmegkmaaGreatDoor
namespace Go.Proofs.YtcpobnknmegkmaaGreatDoor
open Go.RowKit
set_option linter.unusedVariables false
set_option linter.unusedSimpArgs false
namespace Co
/-- A rule's pass. -/
def bit (i : Nat) : Int := if i = 0 then 1 else if i < 5 then 2 else 4
def on (p : Int) (i : Nat) : Bool := (p.toNat &&& (bit i).toNat) != 0
def try1 (p : Int) (i : Nat) (t : T) : Option T := if on p i = true then rule i t else none
def fitFrom (p : Int) (t : T) : Nat → Nat → Option T
  | 0, _ => none
  | k + 1, i => match try1 p i t with | some u => some u | none => fitFrom p t k (i + 1)
def fit (p : Int) (t : T) : Option T := fitFrom p t 7 0
def loop (p : Int) : Nat → T → T
  | 0, t => t
  | k + 1, t => if t.ks = [] then t else match fit p t with | none => t | some u => loop p k u
def settle (p : Int) (t : T) : T := loop p (meas t) t
mutual
/-- A term, rewritten. -/
def T.rw (p : Int) : T → T
  | .mk o n s ks => settle p (.mk o n s (rws p ks))
def rws (p : Int) : List T → List T
  | [] => []
  | k :: r => k.rw p :: rws p r
end
theorem rws_map (p : Int) (ks : List T) : rws p ks = ks.map (T.rw p) := by
  induction ks with
  | nil => rfl
  | cons a r ih => rw [rws, ih]; rfl
theorem fitFrom_rule {p : Int} {t u : T} : ∀ (k i : Nat), fitFrom p t k i = some u → ∃ j, rule j t = some u
  | 0, _, h => by cases h
  | k + 1, i, h => by
    rw [fitFrom] at h
    cases hr : try1 p i t with
    | some v =>
      rw [hr] at h
      obtain rfl : v = u := by simpa using h
      unfold try1 at hr
      split at hr
      · exact ⟨i, hr⟩
      · cases hr
    | none =>
      rw [hr] at h
      exact fitFrom_rule k (i + 1) h
theorem fitFrom_none {p : Int} {t : T} : ∀ (k i : Nat), fitFrom p t k i = none → ∀ j, i ≤ j → j < i + k → try1 p j t = none
  | 0, i, _, j, h1, h2 => by omega
  | k + 1, i, h, j, h1, h2 => by
    rw [fitFrom] at h
    cases hr : try1 p i t with
    | some v => rw [hr] at h; cases h
    | none =>
      rw [hr] at h
      by_cases e : j = i
      · subst e; exact hr
      · exact fitFrom_none k (i + 1) h j (by omega) (by omega)
theorem fit_step {p : Int} {t u : T} (h : fit p t = some u) (hx : t.letter ≠ 0) : Step t u := by
  obtain ⟨j, hj⟩ := fitFrom_rule 7 0 h
  exact rule_step hj hx
theorem fit_not {p : Int} {t : T} (h : fit p t = none) (i : Nat) (hi : i < 7) (ho : on p i = true) : rule i t = none := by
  have := fitFrom_none 7 0 h i (by omega) (by omega)
  unfold try1 at this
  rwa [if_pos ho] at this
theorem meas_pos (t : T) : 1 ≤ meas t := by
  have := meas_ge t
  have := size_pos t
  omega
theorem loop_more (p : Int) : ∀ (k k' : Nat) (t : T), t.letter ≠ 0 → meas t ≤ k → meas t ≤ k' → loop p k t = loop p k' t
  | 0, _, t, _, h, _ => by have := meas_pos t; omega
  | _ + 1, 0, t, _, _, h => by have := meas_pos t; omega
  | k + 1, k' + 1, t, hx, h, h' => by
    rw [loop, loop]
    by_cases he : t.ks = []
    · rw [if_pos he, if_pos he]
    · rw [if_neg he, if_neg he]
      cases hf : fit p t with
      | none => rfl
      | some u =>
        have hs := fit_step hf hx
        exact loop_more p k k' u (by rw [hs.letter]; exact hx) (by have := hs.meas; omega) (by have := hs.meas; omega)
theorem settle_stop {p : Int} {t : T} (h : t.ks = [] ∨ fit p t = none) : settle p t = t := by
  obtain ⟨k, hk⟩ : ∃ k, meas t = k + 1 := ⟨meas t - 1, by have := meas_pos t; omega⟩
  unfold settle
  rw [hk, loop]
  rcases h with h | h
  · rw [if_pos h]
  · rw [h]
    split <;> rfl
theorem settle_go {p : Int} {t u : T} (hx : t.letter ≠ 0) (h : t.ks ≠ []) (hf : fit p t = some u) : settle p t = settle p u := by
  obtain ⟨k, hk⟩ : ∃ k, meas t = k + 1 := ⟨meas t - 1, by have := meas_pos t; omega⟩
  have hs := fit_step hf hx
  show loop p (meas t) t = _
  rw [hk, loop, if_neg h, hf]
  exact loop_more p k (meas u) u (by rw [hs.letter]; exact hx) (by have := hs.meas; omega) (Nat.le_refl _)
/-- No rule fits, nowhere. -/
inductive Normal (p : Int) : T → Prop
  | mk {op n : Int} {s : ByteArray} {ks : List T} : (∀ k ∈ ks, Normal p k) → (ks = [] ∨ fit p (.mk op n s ks) = none) → Normal p (.mk op n s ks)
theorem Normal.kids {p : Int} {t : T} (h : Normal p t) : ∀ k ∈ t.ks, Normal p k := by cases h with | mk h1 h2 => exact h1
theorem Normal.none {p : Int} {t : T} (h : Normal p t) : t.ks = [] ∨ fit p t = none := by cases h with | mk h1 h2 => exact h2
theorem normal_mk {p : Int} {t : T} (h1 : ∀ k ∈ t.ks, Normal p k) (h2 : t.ks = [] ∨ fit p t = none) : Normal p t := by cases t with | mk o n s ks => exact .mk h1 h2
/-- As right, no greater, no deeper, no other nodes but constants and nothing. -/
structure Kept (t u : T) : Prop where
  letter : u.letter = t.letter
  size : u.size ≤ t.size
  depth : u.depth ≤ t.depth
  nodes : ∀ x ∈ u.nodes, x ∈ t.nodes ∨ x.1 = 1 ∨ x.1 = 2 ∨ x.1 = 3 ∨ x.1 = 23
theorem Kept.refl (t : T) : Kept t t := ⟨rfl, Nat.le_refl _, Nat.le_refl _, fun _ h => .inl h⟩
theorem Kept.trans {t u v : T} (h : Kept t u) (k : Kept u v) : Kept t v :=
  ⟨k.letter.trans h.letter, Nat.le_trans k.size h.size, Nat.le_trans k.depth h.depth, fun x hx => (k.nodes x hx).elim (h.nodes x) .inr⟩
theorem Step.kept {t u : T} (h : Step t u) : Kept t u := ⟨h.letter, h.size, h.depth, h.nodes⟩
theorem settle_spec (p : Int) : ∀ (m : Nat) (t : T), meas t ≤ m → t.letter ≠ 0 → (∀ k ∈ t.ks, Normal p k) → Normal p (settle p t) ∧ Kept t (settle p t)
  | 0, t, h, _, _ => by have := meas_pos t; omega
  | m + 1, t, h, hx, hk => by
    by_cases he : t.ks = []
    · rw [settle_stop (.inl he)]
      exact ⟨normal_mk hk (.inl he), .refl t⟩
    · cases hf : fit p t with
      | none =>
        rw [settle_stop (.inr hf)]
        exact ⟨normal_mk hk (.inr hf), .refl t⟩
      | some u =>
        have hs := fit_step hf hx
        rw [settle_go hx he hf]
        obtain ⟨h1, h2⟩ := settle_spec p m u (by have := hs.meas; omega) (by rw [hs.letter]; exact hx)
          (hs.kids (Normal p) hk (fun k h => h.kids) (.mk (fun k h => by cases h) (.inl rfl)))
        exact ⟨h1, hs.kept.trans h2⟩
theorem sizes_map {f : T → T} : ∀ (ks : List T), (∀ k ∈ ks, (f k).size ≤ k.size) → sizes (ks.map f) ≤ sizes ks
  | [], _ => Nat.le_refl _
  | k :: r, h => by
    have h1 := h k (List.mem_cons_self ..)
    have h2 := sizes_map r (fun k hk => h k (List.mem_cons_of_mem _ hk))
    rw [List.map_cons, sizes, sizes]
    omega
theorem depths_map {f : T → T} : ∀ (ks : List T), (∀ k ∈ ks, (f k).depth ≤ k.depth) → depths (ks.map f) ≤ depths ks
  | [], _ => Nat.le_refl _
  | k :: r, h => by
    have h1 := h k (List.mem_cons_self ..)
    have h2 := depths_map r (fun k hk => h k (List.mem_cons_of_mem _ hk))
    rw [List.map_cons, depths, depths]
    omega
theorem kids_kept {op n : Int} {s : ByteArray} {ks : List T} {f : T → T} (h : ∀ k ∈ ks, Kept k (f k)) : Kept (.mk op n s ks) (.mk op n s (ks.map f)) := by
  refine ⟨letter_congr ?_, ?_, ?_, fun x hx => ?_⟩
  · rw [List.map_map]
    exact List.map_congr_left fun k hk => (h k hk).letter
  · have := sizes_map ks (fun k hk => (h k hk).size)
    rw [T.size, T.size]; omega
  · have := depths_map ks (fun k hk => (h k hk).depth)
    rw [T.depth, T.depth]; omega
  · rw [T.nodes] at hx ⊢
    rcases List.mem_cons.1 hx with rfl | hx
    · exact .inl (List.mem_cons_self ..)
    · obtain ⟨k', hk', hx'⟩ := mem_nodess.1 hx
      obtain ⟨k, hk, rfl⟩ := List.mem_map.1 hk'
      rcases (h k hk).nodes x hx' with h1 | h1
      · exact .inl (List.mem_cons_of_mem _ (mem_nodess.2 ⟨k, hk, h1⟩))
      · exact .inr h1
theorem rw_spec (p : Int) (t : T) : t.letter ≠ 0 → Normal p (t.rw p) ∧ Kept t (t.rw p) := by
  induction t using T.ind with | h op n s ks ih => ?_
  intro hx
  have hk := kids_ne hx
  rw [T.rw, rws_map]
  have hkept : Kept (.mk op n s ks) (.mk op n s (ks.map (T.rw p))) := kids_kept fun k h => (ih k h (hk k h)).2
  obtain ⟨h1, h2⟩ := settle_spec p _ (.mk op n s (ks.map (T.rw p))) (Nat.le_refl _) (by rw [hkept.letter]; exact hx) (fun k h => by
    obtain ⟨j, hj, rfl⟩ := List.mem_map.1 h
    exact (ih j hj (hk j hj)).1)
  exact ⟨h1, hkept.trans h2⟩
theorem normal_rw {p : Int} {t : T} (h : Normal p t) : t.rw p = t := by
  induction h with
  | mk h1 h2 ih =>
    rename_i op n s ks
    rw [T.rw, rws_map, show ks.map (T.rw p) = ks from (List.map_congr_left ih).trans (List.map_id ks)]
    exact settle_stop h2
theorem normal_zero (t : T) : Normal 0 t := by
  induction t using T.ind with | h op n s ks ih => ?_
  refine .mk ih (.inr ?_)
  have : ∀ (u : T) (k i : Nat), fitFrom 0 u k i = none := by
    intro u k
    induction k with
    | zero => intro i; rfl
    | succ k ih =>
      intro i
      have e : try1 0 i u = none := by
        unfold try1 on
        simp
      rw [fitFrom, e]
      exact ih (i + 1)
  exact this _ 7 0
theorem Kept.good {t u : T} (h : Kept t u) (hg : t.good) : u.good := by
  obtain ⟨h1, h2, h3⟩ := hg
  rw [small_iff] at h1
  refine ⟨(small_iff u).2 ⟨Nat.le_trans h.size h1.1, Nat.le_trans h.depth h1.2⟩, by rw [h.letter]; exact h2, ?_⟩
  unfold T.ahead at h3 ⊢
  rw [List.any_eq_false] at h3 ⊢
  intro x hx
  rcases h.nodes x hx with h' | h' | h' | h' | h'
  · exact h3 x h'
  all_goals rw [h']; simp
/-- Opt twice is opt once; without passes nothing is done. -/
theorem rw_good {p : Int} {t : T} (h : t.good) : (t.rw p).good := (rw_spec p t (by rw [h.2.1]; decide)).2.good h
theorem rw_twice {p : Int} {t : T} (h : t.good) : (t.rw p).rw p = t.rw p := normal_rw (rw_spec p t (by rw [h.2.1]; decide)).1
theorem rw_zero (t : T) : t.rw 0 = t := normal_rw (normal_zero t)
/-- Hangs on no feed, nor on the day. -/
def T.still (t : T) : Bool := t.nodes.all fun x => x.1 != 4 && x.1 != 5
def T.done (t : T) : Bool := t.nodes.all fun x => !(decide (6 ≤ x.1) && decide (x.1 < 23))
theorem still_iff (t : T) : t.still = true ↔ ∀ x ∈ t.nodes, x.1 ≠ 4 ∧ x.1 ≠ 5 := by
  unfold T.still
  rw [List.all_eq_true]
  simp
theorem done_iff (t : T) : t.done = true ↔ ∀ x ∈ t.nodes, ¬ (6 ≤ x.1 ∧ x.1 < 23) := by
  unfold T.done
  rw [List.all_eq_true]
  simp only [Bool.not_eq_true', Bool.and_eq_false_iff, decide_eq_false_iff_not]
  constructor
  · intro h x hx hh
    rcases h x hx with h | h <;> omega
  · intro h x hx
    have := h x hx
    omega
theorem node_self (t : T) : (t.op, t.n) ∈ t.nodes := by
  cases t with | mk o n s ks => rw [T.nodes]; exact List.mem_cons_self ..
/-- A right observable of which nothing is to reckon is a constant. -/
theorem const_of {k : T} (hx : k.letter ≠ 0) (h99 : k.letter ≠ 99) (hs : k.op ≠ 4 ∧ k.op ≠ 5) (hd : ¬ (6 ≤ k.op ∧ k.op < 23)) : isC k = true := by
  obtain ⟨op, n, s, ks⟩ := k
  simp only [T.op] at hs hd
  obtain ⟨hw, -⟩ := letter_inv (op := op) rfl hx (by omega)
  have hr := want_in hw
  have e : op = 1 ∨ op = 2 ∨ op = 3 := by
    by_cases h : op < 23
    · omega
    · exfalso
      rcases (by omega : op = 23 ∨ op = 24 ∨ op = 25 ∨ op = 26 ∨ op = 27 ∨ op = 28 ∨ op = 29 ∨ op = 30 ∨ op = 31) with rfl | rfl | rfl | rfl | rfl | rfl | rfl | rfl | rfl
      all_goals simp only [want_23, want_24, want_25, want_26, want_27, want_28, want_29, want_30, want_31, Option.some.injEq, Prod.mk.injEq] at hw
      all_goals exact h99 hw.2.symm
  unfold isC
  rcases e with rfl | rfl | rfl <;> rfl
theorem bool_const {k : T} (hl : k.letter = 98) (hc : isC k = true) : k.op = 2 ∧ (k.n = 0 ∨ k.n = 1) := by
  obtain ⟨op, n, s, ks⟩ := k
  have hc' : op = 1 ∨ op = 2 ∨ op = 3 := by simpa [isC, T.op, or_assoc] using hc
  obtain ⟨hw, hf⟩ := letter_inv (op := op) hl (by decide) (by omega)
  rcases hc' with rfl | rfl | rfl
  · simp [want_1] at hw
  · exact ⟨rfl, bool_of hf⟩
  · simp [want_3] at hw
theorem done_of (t : T) : Normal 7 t → t.letter ≠ 0 → (∀ x ∈ t.nodes, x.1 ≠ 4 ∧ x.1 ≠ 5) → ∀ x ∈ t.nodes, ¬ (6 ≤ x.1 ∧ x.1 < 23) := by
  induction t using T.ind with | h op n s ks ih => ?_
  intro hn hx hs x hxm
  have hk := kids_ne hx
  have hks : ∀ k ∈ ks, ∀ x ∈ k.nodes, x.1 ≠ 4 ∧ x.1 ≠ 5 := fun k h x hx => hs x (by rw [T.nodes]; exact List.mem_cons_of_mem _ (mem_nodess.2 ⟨k, h, hx⟩))
  have hkd : ∀ k ∈ ks, ∀ x ∈ k.nodes, ¬ (6 ≤ x.1 ∧ x.1 < 23) := fun k h => ih k h (hn.kids k h) (hk k h) (hks k h)
  rw [T.nodes] at hxm
  rcases List.mem_cons.1 hxm with rfl | hxm
  · simp only
    intro ho
    have hC : ∀ k ∈ ks, k.letter ≠ 99 → isC k = true := fun k h h99 => const_of (hk k h) h99 (hks k h _ (node_self k)) (hkd k h _ (node_self k))
    by_cases h22 : op = 22
    · subst h22
      obtain ⟨a, b, c, rfl, l1, l2, l3, l4, -⟩ := (letter_22 hx).1 rfl
      have hf := (hn.none.resolve_left (fun e => by cases e))
      have hr := fit_not hf 5 (by decide) (by decide)
      have hb := bool_const l1 (hC a (by simp) (by rw [l1]; decide))
      have hr' : chosen (.mk 22 n s [a, b, c]) = none := hr
      unfold chosen at hr'
      rw [if_pos ⟨.inl rfl, hb.1⟩] at hr'
      cases hr'
    · obtain ⟨hw, hfl⟩ := letter_inv (op := op) rfl hx h22
      have hne : ks ≠ [] := by
        rintro rfl
        rcases (by omega : op = 6 ∨ op = 7 ∨ op = 8 ∨ op = 9 ∨ op = 10 ∨ op = 11 ∨ op = 12 ∨ op = 13 ∨ op = 14 ∨ op = 15 ∨ op = 16 ∨ op = 17 ∨ op = 18 ∨ op = 19 ∨ op = 20 ∨ op = 21) with rfl | rfl | rfl | rfl | rfl | rfl | rfl | rfl | rfl | rfl | rfl | rfl | rfl | rfl | rfl | rfl
        all_goals simp [want_6, want_7, want_8, want_9, want_10, want_11, want_12, want_13, want_14, want_15, want_16, want_17, want_18, want_19, want_20, want_21] at hw
      have hf := hn.none.resolve_left hne
      by_cases h15 : op = 15 ∨ op = 16
      · have hab : ∃ a b, ks = [a, b] ∧ a.letter = 98 ∧ b.letter = 98 := by
          have hm : ks.map T.letter = [98, 98] := by
            rcases h15 with rfl | rfl
            · simp only [want_15, Option.some.injEq, Prod.mk.injEq] at hw; exact hw.1.symm
            · simp only [want_16, Option.some.injEq, Prod.mk.injEq] at hw; exact hw.1.symm
          obtain ⟨a, b, e1, e2, -, -⟩ := two_kids (t := .mk op n s ks) hm
          exact ⟨a, b, e1, e2⟩
        obtain ⟨a, b, rfl, la, lb⟩ := hab
        have hb := bool_const la (hC a (by simp) (by rw [la]; decide))
        have r2 : idle (.mk op n s [a, b]) = none := fit_not hf 2 (by decide) (by decide)
        have r3 : settled (.mk op n s [a, b]) = none := fit_not hf 3 (by decide) (by decide)
        have b0 : a.n = 0 → isBool a 0 = true := fun e => by simp [isBool, hb.1, e]
        have b1 : a.n = 1 → isBool a 1 = true := fun e => by simp [isBool, hb.1, e]
        unfold idle at r2
        unfold settled at r3
        rcases h15 with rfl | rfl
        · rcases hb.2 with e | e
          · rw [if_pos (.inl ⟨rfl, b0 e⟩)] at r3
            cases r3
          · have hL : idleL 15 a b = true := by simp [idleL, b1 e]
            rw [if_pos (show (T.mk 15 n s [a, b]).ks.length = 2 from rfl), if_pos (show idleL (T.mk 15 n s [a, b]).op ((T.mk 15 n s [a, b]).kid 0) ((T.mk 15 n s [a, b]).kid 1) = true from hL)] at r2
            cases r2
        · rcases hb.2 with e | e
          · have hL : idleL 16 a b = true := by simp [idleL, b0 e]
            rw [if_pos (show (T.mk 16 n s [a, b]).ks.length = 2 from rfl), if_pos (show idleL (T.mk 16 n s [a, b]).op ((T.mk 16 n s [a, b]).kid 0) ((T.mk 16 n s [a, b]).kid 1) = true from hL)] at r2
            cases r2
          · rw [if_pos (.inr (.inl ⟨rfl, b1 e⟩))] at r3
            cases r3
      · have r0 : fold (.mk op n s ks) = none := fit_not hf 0 (by decide) (by decide)
        have h1 : (∀ k ∈ ks, k.letter ≠ 99) ∧ ks.length ≤ 2 := by
          have hl : (ks.map T.letter).length = ks.length := List.length_map ..
          have hmem : ∀ k ∈ ks, k.letter ∈ ks.map T.letter := fun k h => List.mem_map_of_mem h
          generalize ks.map T.letter = l at *
          rcases (by omega : op = 6 ∨ op = 7 ∨ op = 8 ∨ op = 9 ∨ op = 10 ∨ op = 11 ∨ op = 12 ∨ op = 13 ∨ op = 14 ∨ op = 17 ∨ op = 18 ∨ op = 19 ∨ op = 20 ∨ op = 21) with rfl | rfl | rfl | rfl | rfl | rfl | rfl | rfl | rfl | rfl | rfl | rfl | rfl | rfl
          all_goals simp only [want_6, want_7, want_8, want_9, want_10, want_11, want_12, want_13, want_14, want_17, want_18, want_19, want_20, want_21, Option.some.injEq, Prod.mk.injEq] at hw
          all_goals
            obtain ⟨rfl, -⟩ := hw
            refine ⟨fun k h e => ?_, by rw [← hl]; decide⟩
            have := hmem k h
            rw [e] at this
            revert this
            decide
        unfold fold at r0
        rw [if_pos ⟨h1.2, List.all_eq_true.2 fun k h => hC k h (h1.1 k h)⟩] at r0
        simp only [T.op] at r0
        clear hw hf h1 hne hfl hxm hn hx hs
        rcases (by omega : op = 6 ∨ op = 7 ∨ op = 8 ∨ op = 9 ∨ op = 10 ∨ op = 11 ∨ op = 12 ∨ op = 13 ∨ op = 14 ∨ op = 17 ∨ op = 18 ∨ op = 19 ∨ op = 20 ∨ op = 21) with rfl | rfl | rfl | rfl | rfl | rfl | rfl | rfl | rfl | rfl | rfl | rfl | rfl | rfl
        all_goals simp [foldOp] at r0
  · obtain ⟨k, hk2, hx2⟩ := mem_nodess.1 hxm
    exact hkd k hk2 x hx2
theorem rw_done {t : T} (h : t.good) (hs : t.still = true) : (t.rw 7).done = true := by
  have hx : t.letter ≠ 0 := by rw [h.2.1]; decide
  obtain ⟨hn, hk⟩ := rw_spec 7 t hx
  rw [done_iff]
  rw [still_iff] at hs
  refine done_of _ hn (by rw [hk.letter]; exact hx) (fun x hxm => ?_)
  rcases hk.nodes x hxm with h' | h' | h' | h' | h'
  · exact hs x h'
  all_goals omega
end Co
end Go.Proofs.YtcpobnknmegkmaaGreatDoor
namespace Go.Proofs.YtcpobnknmegkmaaGreatDoor
open Go.RowKit
set_option linter.unusedVariables false
set_option linter.unusedSimpArgs false
namespace Co
mutual
/-- What is left of m terms behind a term at depth d. -/
def T.left : T → Int → Int → Int
  | .mk _ _ _ ks, m, d => if 200 < d then -1 else lefts ks (m - 1) (d + 1)
def lefts : List T → Int → Int → Int
  | [], m, _ => m
  | k :: r, m, d => if 0 ≤ m then lefts r (k.left m d) d else m
end
theorem lefts_neg (ks : List T) {m d : Int} (h : m < 0) : lefts ks m d = m := by
  cases ks with
  | nil => rw [lefts]
  | cons k r => rw [lefts, if_neg (by omega)]
theorem left_spec (t : T) : ∀ (m d : Int), 0 ≤ m → (-1 ≤ t.left m d ∧ t.left m d ≤ m) ∧ (0 ≤ t.left m d ↔ (t.size : Int) ≤ m ∧ d + t.depth ≤ 201) ∧ (0 ≤ t.left m d → t.left m d = m - t.size) := by
  refine T.ind (P := fun t => ∀ (m d : Int), 0 ≤ m → (-1 ≤ t.left m d ∧ t.left m d ≤ m) ∧ (0 ≤ t.left m d ↔ (t.size : Int) ≤ m ∧ d + t.depth ≤ 201) ∧ (0 ≤ t.left m d → t.left m d = m - t.size)) (fun o n s ks ih m d hm => ?_) t
  have hl : ∀ (l : List T), (∀ k ∈ l, ∀ (m d : Int), 0 ≤ m → (-1 ≤ k.left m d ∧ k.left m d ≤ m) ∧ (0 ≤ k.left m d ↔ (k.size : Int) ≤ m ∧ d + k.depth ≤ 201) ∧ (0 ≤ k.left m d → k.left m d = m - k.size)) →
      ∀ (m d : Int), -1 ≤ m → d ≤ 201 → (-1 ≤ lefts l m d ∧ lefts l m d ≤ m) ∧ (0 ≤ lefts l m d ↔ 0 ≤ m ∧ (sizes l : Int) ≤ m ∧ d + depths l ≤ 201) ∧ (0 ≤ lefts l m d → lefts l m d = m - sizes l) := by
    intro l
    induction l with
    | nil =>
      intro _ m d hm hd
      rw [lefts, sizes, depths]
      omega
    | cons a r ih2 =>
      intro h m d hm hd
      by_cases h0 : 0 ≤ m
      · obtain ⟨h1, h2, h3⟩ := h a (List.mem_cons_self ..) m d h0
        obtain ⟨e1, e2, e3⟩ := ih2 (fun k hk => h k (List.mem_cons_of_mem _ hk)) (a.left m d) d h1.1 hd
        rw [lefts, if_pos h0, sizes, depths]
        generalize a.left m d = x at *
        generalize lefts r x d = y at *
        refine ⟨by omega, ⟨fun hy => ?_, fun ⟨_, p1, p2⟩ => ?_⟩, fun hy => ?_⟩
        · obtain ⟨q1, q2, q3⟩ := e2.1 hy
          have := h2.1 q1
          have := h3 q1
          omega
        · have q1 := h2.2 (by omega)
          have := h3 q1
          exact e2.2 (by omega)
        · obtain ⟨q1, q2, q3⟩ := e2.1 hy
          have := h3 q1
          have := e3 hy
          omega
      · rw [lefts_neg (a :: r) (by omega)]
        omega
  rw [T.left, T.size, T.depth]
  by_cases hd : 200 < d
  · rw [if_pos hd]
    omega
  · rw [if_neg hd]
    obtain ⟨h1, h2, h3⟩ := hl ks ih (m - 1) (d + 1) (by omega) (by omega)
    generalize lefts ks (m - 1) (d + 1) = y at *
    refine ⟨by omega, ⟨fun hy => ?_, fun ⟨p1, p2⟩ => h2.2 (by omega)⟩, fun hy => ?_⟩
    · have := h2.1 hy
      omega
    · have := h3 hy
      omega
theorem left_small (t : T) : decide (0 ≤ t.left 2000 1) = small t := by
  rw [Bool.eq_iff_iff, decide_eq_true_eq, small_iff]
  have := (left_spec t 2000 1 (by omega)).2.1
  omega
/-- How far a node looks. -/
def nb (o n : Int) : Int := if o = 29 ∨ o = 30 ∨ o = 31 then n else 0
mutual
def T.hor : T → Int
  | .mk o n _ ks => hors ks (nb o n)
def hors : List T → Int → Int
  | [], m => m
  | k :: r, m => hors r (max m k.hor)
end
theorem hors_le {ks : List T} {H : Int} : ∀ {m : Int}, hors ks m ≤ H ↔ m ≤ H ∧ ∀ k ∈ ks, k.hor ≤ H := by
  induction ks with
  | nil => intro m; simp [hors]
  | cons a r ih =>
    intro m
    rw [hors, ih]
    simp only [List.mem_cons, forall_eq_or_imp, Int.max_le, and_assoc]
theorem hor_le (t : T) (H : Int) : t.hor ≤ H ↔ ∀ x ∈ t.nodes, nb x.1 x.2 ≤ H := by
  induction t using T.ind with | h o n s ks ih => ?_
  rw [T.hor, T.nodes, hors_le]
  simp only [List.mem_cons, forall_eq_or_imp, mem_nodess]
  constructor
  · rintro ⟨h1, h2⟩
    exact ⟨h1, fun x ⟨k, hk, hx⟩ => (ih k hk).1 (h2 k hk) x hx⟩
  · rintro ⟨h1, h2⟩
    exact ⟨h1, fun k hk => (ih k hk).2 fun x hx => h2 x ⟨k, hk, hx⟩⟩
theorem nb_root {t : T} (h : t.good) : 0 ≤ nb t.op t.n := by
  unfold nb
  split
  · rename_i h1
    cases t with | mk o n s ks => ?_
    have hl := h.2.1
    have hf : fields o n s = true := (letter_inv hl (by decide) (by intro e; subst e; rcases h1 with h1 | h1 | h1 <;> cases h1)).2
    rcases h1 with rfl | rfl | rfl
    · exact (day_of (.inr (.inl rfl)) hf).1
    · exact (day_of (.inr (.inr rfl)) hf).1
    · simp [fields, Gen.within] at hf
      exact hf.2.1
  · exact Int.le_refl _
theorem Kept.hor {t u : T} (h : Kept t u) (hg : t.good) : u.hor ≤ t.hor := by
  have h0 : 0 ≤ t.hor := Int.le_trans (nb_root hg) ((hor_le t _).1 (Int.le_refl _) _ (node_self t))
  rw [hor_le]
  intro x hx
  rcases h.nodes x hx with h1 | h1
  · exact (hor_le t _).1 (Int.le_refl _) x h1
  · unfold nb
    rw [if_neg (by omega)]
    exact h0
theorem ahead_eq (op n : Int) (s : ByteArray) (ks : List T) : (T.mk op n s ks).ahead = (((op == 4 || op == 5) && decide (n < 0)) || ks.any T.ahead) := by
  have hn : ∀ l : List T, ((nodess l).any fun x => (x.1 == 4 || x.1 == 5) && decide (x.2 < 0)) = l.any T.ahead := by
    intro l
    induction l with
    | nil => rfl
    | cons a r ih => rw [nodess, List.any_append, ih, List.any_cons]; rfl
  unfold T.ahead
  rw [T.nodes, List.any_cons, hn]
  rfl
/-- A letter's type. -/
def code (x : UInt8) : Int := if x = 110 then 0 else if x = 98 then 1 else if x = 100 then 2 else 4
theorem letter_is (t : T) : t.letter = 0 ∨ t.letter = 110 ∨ t.letter = 98 ∨ t.letter = 100 ∨ t.letter = 99 := by
  induction t using T.ind with | h op n s ks ih => ?_
  by_cases h0 : (T.mk op n s ks).letter = 0
  · exact .inl h0
  by_cases h22 : op = 22
  · subst h22
    obtain ⟨a, b, c, rfl, h1, h2, h3, h4, h5⟩ := (letter_22 (x := (T.mk 22 n s ks).letter) h0).1 rfl
    rw [← h2]
    exact ih b (by simp)
  · obtain ⟨hw, -⟩ := letter_inv rfl h0 h22
    generalize (T.mk op n s ks).letter = x at *
    generalize ks.map T.letter = l at *
    rcases op_cases (want_in hw) with rfl | rfl | rfl | rfl | rfl | rfl | rfl | rfl | rfl | rfl | rfl | rfl | rfl | rfl | rfl | rfl | rfl | rfl | rfl | rfl | rfl | rfl | rfl | rfl | rfl | rfl | rfl | rfl | rfl | rfl | rfl
    all_goals first | exact absurd rfl h22 | skip
    all_goals simp only [want_1, want_2, want_3, want_4, want_5, want_6, want_7, want_8, want_9, want_10, want_11, want_12, want_13, want_14, want_15, want_16, want_17, want_18, want_19, want_20, want_21, want_22, want_23, want_24, want_25, want_26, want_27, want_28, want_29, want_30, want_31] at hw
    all_goals
      cases hw
      decide
theorem code_inj {x y : UInt8} (hx : x = 110 ∨ x = 98 ∨ x = 100 ∨ x = 99) (hy : y = 110 ∨ y = 98 ∨ y = 100 ∨ y = 99) : code x = code y ↔ x = y := by
  rcases hx with rfl | rfl | rfl | rfl <;> rcases hy with rfl | rfl | rfl | rfl <;> decide
end Co
end Go.Proofs.YtcpobnknmegkmaaGreatDoor
namespace Go.Proofs.YtcpobnknmegkmaaGreatDoor
open Go.RowKit
set_option linter.unusedVariables false
set_option linter.unusedSimpArgs false
set_option maxRecDepth 100000
/-- A list of numbers lies at a slice. -/
def IntsAt (W : World) (v : Value) (l : List Int) : Prop := ∃ p c, v = .slice p l.length c ∧ ∀ i x, l[i]? = some x → ∃ b off, p = some ⟨b, off, none⟩ ∧ W.cell? ⟨b, off + i, none⟩ = some (.int .i64 x)
theorem IntsAt.kept {W W' : World} {v : Value} {l : List Int} (h : IntsAt W v l) (B : Below W.heap.size W W') : IntsAt W' v l := by
  obtain ⟨p, c, rfl, hc⟩ := h
  refine ⟨p, c, rfl, fun i x hi => ?_⟩
  obtain ⟨b, off, e, h1⟩ := hc i x hi
  exact ⟨b, off, e, (B.cell (World.block_lt_of_cell? _ _ h1)).trans h1⟩
theorem IntsAt.nil (W : World) : IntsAt W (.slice none 0 0) [] := ⟨none, 0, rfl, fun i x h => by cases h⟩
theorem IntsAt.new (W : World) (xs : Array Value) (l : List Int) (t : TypeId) (h : xs.toList = l.map (Value.int .i64)) : IntsAt (W.alloc (.cells xs t)) (.slice (some ⟨W.heap.size, 0, none⟩) l.length l.length) l := by
  refine ⟨_, _, rfl, fun i x hi => ⟨_, _, rfl, ?_⟩⟩
  rw [Nat.zero_add]
  refine new_cell rfl ?_
  rw [← Array.getElem?_toList, h, List.getElem?_map, hi]
  rfl
namespace Co
/-- The types of an operation's kids, its own, whether there is one; OIf aside. -/
def rk (op : Int) : List Int × Int × Bool := if op = 22 then ([], 0, false) else match want op with | none => ([], 0, false) | some (l, r) => (l.map code, code r, true)
end Co
/-- What the reference's kids tells of an operation. -/
def KidsPost (x : List Int × Int × Bool) (w : World) (e : Ending) (w' : World) : Prop := ∃ v, e = .returned (.tuple #[v, .int .i64 x.2.1, .bool x.2.2]) ∧ Below w.heap.size w w' ∧ IntsAt w' v x.1
theorem kids_1 (w : World) : Calls Tryz.prog 45 #[.int .i64 1] w (KidsPost (Co.rk 1) w) := by
  rw [show Co.rk 1 = ([], 0, true) by kernel_rfl]
  go_enter Tryz.func45, Tryz.ntmps45
  go_wp2_with fail
  refine bodyPost_ret (results_tmp3 rfl _ _ _) rfl ?_
  exact ⟨_, rfl, Below.refl _ _, IntsAt.nil _⟩
theorem kids_2 (w : World) : Calls Tryz.prog 45 #[.int .i64 2] w (KidsPost (Co.rk 2) w) := by
  rw [show Co.rk 2 = ([], 1, true) by kernel_rfl]
  go_enter Tryz.func45, Tryz.ntmps45
  go_wp2_with fail
  refine bodyPost_ret (results_tmp3 rfl _ _ _) rfl ?_
  exact ⟨_, rfl, Below.refl _ _, IntsAt.nil _⟩
theorem kids_3 (w : World) : Calls Tryz.prog 45 #[.int .i64 3] w (KidsPost (Co.rk 3) w) := by
  rw [show Co.rk 3 = ([], 2, true) by kernel_rfl]
  go_enter Tryz.func45, Tryz.ntmps45
  go_wp2_with fail
  refine bodyPost_ret (results_tmp3 rfl _ _ _) rfl ?_
  exact ⟨_, rfl, Below.refl _ _, IntsAt.nil _⟩
theorem kids_4 (w : World) : Calls Tryz.prog 45 #[.int .i64 4] w (KidsPost (Co.rk 4) w) := by
  rw [show Co.rk 4 = ([], 0, true) by kernel_rfl]
  go_enter Tryz.func45, Tryz.ntmps45
  go_wp2_with fail
  refine bodyPost_ret (results_tmp3 rfl _ _ _) rfl ?_
  exact ⟨_, rfl, Below.refl _ _, IntsAt.nil _⟩
theorem kids_5 (w : World) : Calls Tryz.prog 45 #[.int .i64 5] w (KidsPost (Co.rk 5) w) := by
  rw [show Co.rk 5 = ([], 2, true) by kernel_rfl]
  go_enter Tryz.func45, Tryz.ntmps45
  go_wp2_with fail
  refine bodyPost_ret (results_tmp3 rfl _ _ _) rfl ?_
  exact ⟨_, rfl, Below.refl _ _, IntsAt.nil _⟩
theorem kids_6 (w : World) : Calls Tryz.prog 45 #[.int .i64 6] w (KidsPost (Co.rk 6) w) := by
  rw [show Co.rk 6 = ([0], 0, true) by kernel_rfl]
  go_enter Tryz.func45, Tryz.ntmps45
  go_wp2_with fail
  refine bodyPost_ret (results_tmp3 rfl _ _ _) rfl ?_
  exact ⟨_, rfl, (Below.refl _ _).alloc (Nat.le_refl _) _, IntsAt.new w _ [0] _ rfl⟩
theorem kids_7 (w : World) : Calls Tryz.prog 45 #[.int .i64 7] w (KidsPost (Co.rk 7) w) := by
  rw [show Co.rk 7 = ([0, 0], 0, true) by kernel_rfl]
  go_enter Tryz.func45, Tryz.ntmps45
  go_wp2_with fail
  refine bodyPost_ret (results_tmp3 rfl _ _ _) rfl ?_
  exact ⟨_, rfl, (Below.refl _ _).alloc (Nat.le_refl _) _, IntsAt.new w _ [0, 0] _ rfl⟩
theorem kids_8 (w : World) : Calls Tryz.prog 45 #[.int .i64 8] w (KidsPost (Co.rk 8) w) := by
  rw [show Co.rk 8 = ([0, 0], 0, true) by kernel_rfl]
  go_enter Tryz.func45, Tryz.ntmps45
  go_wp2_with fail
  refine bodyPost_ret (results_tmp3 rfl _ _ _) rfl ?_
  exact ⟨_, rfl, (Below.refl _ _).alloc (Nat.le_refl _) _, IntsAt.new w _ [0, 0] _ rfl⟩
theorem kids_9 (w : World) : Calls Tryz.prog 45 #[.int .i64 9] w (KidsPost (Co.rk 9) w) := by
  rw [show Co.rk 9 = ([0, 0], 0, true) by kernel_rfl]
  go_enter Tryz.func45, Tryz.ntmps45
  go_wp2_with fail
  refine bodyPost_ret (results_tmp3 rfl _ _ _) rfl ?_
  exact ⟨_, rfl, (Below.refl _ _).alloc (Nat.le_refl _) _, IntsAt.new w _ [0, 0] _ rfl⟩
theorem kids_10 (w : World) : Calls Tryz.prog 45 #[.int .i64 10] w (KidsPost (Co.rk 10) w) := by
  rw [show Co.rk 10 = ([0, 0], 0, true) by kernel_rfl]
  go_enter Tryz.func45, Tryz.ntmps45
  go_wp2_with fail
  refine bodyPost_ret (results_tmp3 rfl _ _ _) rfl ?_
  exact ⟨_, rfl, (Below.refl _ _).alloc (Nat.le_refl _) _, IntsAt.new w _ [0, 0] _ rfl⟩
theorem kids_11 (w : World) : Calls Tryz.prog 45 #[.int .i64 11] w (KidsPost (Co.rk 11) w) := by
  rw [show Co.rk 11 = ([0, 0], 1, true) by kernel_rfl]
  go_enter Tryz.func45, Tryz.ntmps45
  go_wp2_with fail
  refine bodyPost_ret (results_tmp3 rfl _ _ _) rfl ?_
  exact ⟨_, rfl, (Below.refl _ _).alloc (Nat.le_refl _) _, IntsAt.new w _ [0, 0] _ rfl⟩
theorem kids_12 (w : World) : Calls Tryz.prog 45 #[.int .i64 12] w (KidsPost (Co.rk 12) w) := by
  rw [show Co.rk 12 = ([0, 0], 1, true) by kernel_rfl]
  go_enter Tryz.func45, Tryz.ntmps45
  go_wp2_with fail
  refine bodyPost_ret (results_tmp3 rfl _ _ _) rfl ?_
  exact ⟨_, rfl, (Below.refl _ _).alloc (Nat.le_refl _) _, IntsAt.new w _ [0, 0] _ rfl⟩
theorem kids_13 (w : World) : Calls Tryz.prog 45 #[.int .i64 13] w (KidsPost (Co.rk 13) w) := by
  rw [show Co.rk 13 = ([0, 0], 1, true) by kernel_rfl]
  go_enter Tryz.func45, Tryz.ntmps45
  go_wp2_with fail
  refine bodyPost_ret (results_tmp3 rfl _ _ _) rfl ?_
  exact ⟨_, rfl, (Below.refl _ _).alloc (Nat.le_refl _) _, IntsAt.new w _ [0, 0] _ rfl⟩
theorem kids_14 (w : World) : Calls Tryz.prog 45 #[.int .i64 14] w (KidsPost (Co.rk 14) w) := by
  rw [show Co.rk 14 = ([1], 1, true) by kernel_rfl]
  go_enter Tryz.func45, Tryz.ntmps45
  go_wp2_with fail
  refine bodyPost_ret (results_tmp3 rfl _ _ _) rfl ?_
  exact ⟨_, rfl, (Below.refl _ _).alloc (Nat.le_refl _) _, IntsAt.new w _ [1] _ rfl⟩
theorem kids_15 (w : World) : Calls Tryz.prog 45 #[.int .i64 15] w (KidsPost (Co.rk 15) w) := by
  rw [show Co.rk 15 = ([1, 1], 1, true) by kernel_rfl]
  go_enter Tryz.func45, Tryz.ntmps45
  go_wp2_with fail
  refine bodyPost_ret (results_tmp3 rfl _ _ _) rfl ?_
  exact ⟨_, rfl, (Below.refl _ _).alloc (Nat.le_refl _) _, IntsAt.new w _ [1, 1] _ rfl⟩
theorem kids_16 (w : World) : Calls Tryz.prog 45 #[.int .i64 16] w (KidsPost (Co.rk 16) w) := by
  rw [show Co.rk 16 = ([1, 1], 1, true) by kernel_rfl]
  go_enter Tryz.func45, Tryz.ntmps45
  go_wp2_with fail
  refine bodyPost_ret (results_tmp3 rfl _ _ _) rfl ?_
  exact ⟨_, rfl, (Below.refl _ _).alloc (Nat.le_refl _) _, IntsAt.new w _ [1, 1] _ rfl⟩
theorem kids_17 (w : World) : Calls Tryz.prog 45 #[.int .i64 17] w (KidsPost (Co.rk 17) w) := by
  rw [show Co.rk 17 = ([2, 2], 1, true) by kernel_rfl]
  go_enter Tryz.func45, Tryz.ntmps45
  go_wp2_with fail
  refine bodyPost_ret (results_tmp3 rfl _ _ _) rfl ?_
  exact ⟨_, rfl, (Below.refl _ _).alloc (Nat.le_refl _) _, IntsAt.new w _ [2, 2] _ rfl⟩
theorem kids_18 (w : World) : Calls Tryz.prog 45 #[.int .i64 18] w (KidsPost (Co.rk 18) w) := by
  rw [show Co.rk 18 = ([2, 0], 2, true) by kernel_rfl]
  go_enter Tryz.func45, Tryz.ntmps45
  go_wp2_with fail
  refine bodyPost_ret (results_tmp3 rfl _ _ _) rfl ?_
  exact ⟨_, rfl, (Below.refl _ _).alloc (Nat.le_refl _) _, IntsAt.new w _ [2, 0] _ rfl⟩
theorem kids_19 (w : World) : Calls Tryz.prog 45 #[.int .i64 19] w (KidsPost (Co.rk 19) w) := by
  rw [show Co.rk 19 = ([2, 0], 2, true) by kernel_rfl]
  go_enter Tryz.func45, Tryz.ntmps45
  go_wp2_with fail
  refine bodyPost_ret (results_tmp3 rfl _ _ _) rfl ?_
  exact ⟨_, rfl, (Below.refl _ _).alloc (Nat.le_refl _) _, IntsAt.new w _ [2, 0] _ rfl⟩
theorem kids_20 (w : World) : Calls Tryz.prog 45 #[.int .i64 20] w (KidsPost (Co.rk 20) w) := by
  rw [show Co.rk 20 = ([2, 2], 0, true) by kernel_rfl]
  go_enter Tryz.func45, Tryz.ntmps45
  go_wp2_with fail
  refine bodyPost_ret (results_tmp3 rfl _ _ _) rfl ?_
  exact ⟨_, rfl, (Below.refl _ _).alloc (Nat.le_refl _) _, IntsAt.new w _ [2, 2] _ rfl⟩
theorem kids_21 (w : World) : Calls Tryz.prog 45 #[.int .i64 21] w (KidsPost (Co.rk 21) w) := by
  rw [show Co.rk 21 = ([2, 2], 0, true) by kernel_rfl]
  go_enter Tryz.func45, Tryz.ntmps45
  go_wp2_with fail
  refine bodyPost_ret (results_tmp3 rfl _ _ _) rfl ?_
  exact ⟨_, rfl, (Below.refl _ _).alloc (Nat.le_refl _) _, IntsAt.new w _ [2, 2] _ rfl⟩
theorem kids_23 (w : World) : Calls Tryz.prog 45 #[.int .i64 23] w (KidsPost (Co.rk 23) w) := by
  rw [show Co.rk 23 = ([], 4, true) by kernel_rfl]
  go_enter Tryz.func45, Tryz.ntmps45
  go_wp2_with fail
  refine bodyPost_ret (results_tmp3 rfl _ _ _) rfl ?_
  exact ⟨_, rfl, Below.refl _ _, IntsAt.nil _⟩
theorem kids_24 (w : World) : Calls Tryz.prog 45 #[.int .i64 24] w (KidsPost (Co.rk 24) w) := by
  rw [show Co.rk 24 = ([], 4, true) by kernel_rfl]
  go_enter Tryz.func45, Tryz.ntmps45
  go_wp2_with fail
  refine bodyPost_ret (results_tmp3 rfl _ _ _) rfl ?_
  exact ⟨_, rfl, Below.refl _ _, IntsAt.nil _⟩
theorem kids_25 (w : World) : Calls Tryz.prog 45 #[.int .i64 25] w (KidsPost (Co.rk 25) w) := by
  rw [show Co.rk 25 = ([4], 4, true) by kernel_rfl]
  go_enter Tryz.func45, Tryz.ntmps45
  go_wp2_with fail
  refine bodyPost_ret (results_tmp3 rfl _ _ _) rfl ?_
  exact ⟨_, rfl, (Below.refl _ _).alloc (Nat.le_refl _) _, IntsAt.new w _ [4] _ rfl⟩
theorem kids_26 (w : World) : Calls Tryz.prog 45 #[.int .i64 26] w (KidsPost (Co.rk 26) w) := by
  rw [show Co.rk 26 = ([0, 4], 4, true) by kernel_rfl]
  go_enter Tryz.func45, Tryz.ntmps45
  go_wp2_with fail
  refine bodyPost_ret (results_tmp3 rfl _ _ _) rfl ?_
  exact ⟨_, rfl, (Below.refl _ _).alloc (Nat.le_refl _) _, IntsAt.new w _ [0, 4] _ rfl⟩
theorem kids_27 (w : World) : Calls Tryz.prog 45 #[.int .i64 27] w (KidsPost (Co.rk 27) w) := by
  rw [show Co.rk 27 = ([4, 4], 4, true) by kernel_rfl]
  go_enter Tryz.func45, Tryz.ntmps45
  go_wp2_with fail
  refine bodyPost_ret (results_tmp3 rfl _ _ _) rfl ?_
  exact ⟨_, rfl, (Below.refl _ _).alloc (Nat.le_refl _) _, IntsAt.new w _ [4, 4] _ rfl⟩
theorem kids_28 (w : World) : Calls Tryz.prog 45 #[.int .i64 28] w (KidsPost (Co.rk 28) w) := by
  rw [show Co.rk 28 = ([1, 4, 4], 4, true) by kernel_rfl]
  go_enter Tryz.func45, Tryz.ntmps45
  go_wp2_with fail
  refine bodyPost_ret (results_tmp3 rfl _ _ _) rfl ?_
  exact ⟨_, rfl, (Below.refl _ _).alloc (Nat.le_refl _) _, IntsAt.new w _ [1, 4, 4] _ rfl⟩
theorem kids_29 (w : World) : Calls Tryz.prog 45 #[.int .i64 29] w (KidsPost (Co.rk 29) w) := by
  rw [show Co.rk 29 = ([4], 4, true) by kernel_rfl]
  go_enter Tryz.func45, Tryz.ntmps45
  go_wp2_with fail
  refine bodyPost_ret (results_tmp3 rfl _ _ _) rfl ?_
  exact ⟨_, rfl, (Below.refl _ _).alloc (Nat.le_refl _) _, IntsAt.new w _ [4] _ rfl⟩
theorem kids_30 (w : World) : Calls Tryz.prog 45 #[.int .i64 30] w (KidsPost (Co.rk 30) w) := by
  rw [show Co.rk 30 = ([1, 4], 4, true) by kernel_rfl]
  go_enter Tryz.func45, Tryz.ntmps45
  go_wp2_with fail
  refine bodyPost_ret (results_tmp3 rfl _ _ _) rfl ?_
  exact ⟨_, rfl, (Below.refl _ _).alloc (Nat.le_refl _) _, IntsAt.new w _ [1, 4] _ rfl⟩
theorem kids_31 (w : World) : Calls Tryz.prog 45 #[.int .i64 31] w (KidsPost (Co.rk 31) w) := by
  rw [show Co.rk 31 = ([4, 4], 4, true) by kernel_rfl]
  go_enter Tryz.func45, Tryz.ntmps45
  go_wp2_with fail
  refine bodyPost_ret (results_tmp3 rfl _ _ _) rfl ?_
  exact ⟨_, rfl, (Below.refl _ _).alloc (Nat.le_refl _) _, IntsAt.new w _ [4, 4] _ rfl⟩
theorem kids_none (op : Int) (h : op < 1 ∨ 31 < op ∨ op = 22) (w : World) : Calls Tryz.prog 45 #[.int .i64 op] w (KidsPost (Co.rk op) w) := by
  rw [show Co.rk op = ([], 0, false) by
    unfold Co.rk
    by_cases h22 : op = 22
    · rw [if_pos h22]
    · rw [if_neg h22, Co.want_out (by omega)]]
  have g1 : (op == 1) = false := by simp; omega
  have g2 : (op == 2) = false := by simp; omega
  have g3 : (op == 3) = false := by simp; omega
  have g4 : (op == 4) = false := by simp; omega
  have g5 : (op == 5) = false := by simp; omega
  have g6 : (op == 6) = false := by simp; omega
  have g7 : (op == 7) = false := by simp; omega
  have g8 : (op == 8) = false := by simp; omega
  have g9 : (op == 9) = false := by simp; omega
  have g10 : (op == 10) = false := by simp; omega
  have g11 : (op == 11) = false := by simp; omega
  have g12 : (op == 12) = false := by simp; omega
  have g13 : (op == 13) = false := by simp; omega
  have g14 : (op == 14) = false := by simp; omega
  have g15 : (op == 15) = false := by simp; omega
  have g16 : (op == 16) = false := by simp; omega
  have g17 : (op == 17) = false := by simp; omega
  have g18 : (op == 18) = false := by simp; omega
  have g19 : (op == 19) = false := by simp; omega
  have g20 : (op == 20) = false := by simp; omega
  have g21 : (op == 21) = false := by simp; omega
  have g23 : (op == 23) = false := by simp; omega
  have g24 : (op == 24) = false := by simp; omega
  have g25 : (op == 25) = false := by simp; omega
  have g26 : (op == 26) = false := by simp; omega
  have g27 : (op == 27) = false := by simp; omega
  have g28 : (op == 28) = false := by simp; omega
  have g29 : (op == 29) = false := by simp; omega
  have g30 : (op == 30) = false := by simp; omega
  have g31 : (op == 31) = false := by simp; omega
  clear h
  go_enter Tryz.func45, Tryz.ntmps45
  go_wp2_with fail
  refine bodyPost_ret (results_tmp3 rfl _ _ _) rfl ?_
  exact ⟨_, rfl, Below.refl _ _, IntsAt.nil _⟩
theorem refKids_any (op : Int) (w : World) : Calls Tryz.prog 45 #[.int .i64 op] w (KidsPost (Co.rk op) w) := by
  by_cases h : op < 1 ∨ 31 < op ∨ op = 22
  · exact kids_none op h w
  · rcases Co.op_cases (op := op) (by omega) with rfl | rfl | rfl | rfl | rfl | rfl | rfl | rfl | rfl | rfl | rfl | rfl | rfl | rfl | rfl | rfl | rfl | rfl | rfl | rfl | rfl | rfl | rfl | rfl | rfl | rfl | rfl | rfl | rfl | rfl | rfl
    · exact kids_1 w
    · exact kids_2 w
    · exact kids_3 w
    · exact kids_4 w
    · exact kids_5 w
    · exact kids_6 w
    · exact kids_7 w
    · exact kids_8 w
    · exact kids_9 w
    · exact kids_10 w
    · exact kids_11 w
    · exact kids_12 w
    · exact kids_13 w
    · exact kids_14 w
    · exact kids_15 w
    · exact kids_16 w
    · exact kids_17 w
    · exact kids_18 w
    · exact kids_19 w
    · exact kids_20 w
    · exact kids_21 w
    · exact absurd (.inr (.inr rfl)) h
    · exact kids_23 w
    · exact kids_24 w
    · exact kids_25 w
    · exact kids_26 w
    · exact kids_27 w
    · exact kids_28 w
    · exact kids_29 w
    · exact kids_30 w
    · exact kids_31 w
theorem refLast_any (v : Value) (l : List Int) (x : Int) (w : World) (h : IntsAt w v (l ++ [x])) (hl : l.length ≤ 1000) : Calls Tryz.prog 44 #[v] w (Ret (.int .i64 x) w) := by
  obtain ⟨p, c, rfl, hc⟩ := h
  obtain ⟨b, off, rfl, hx⟩ := hc l.length x (by simp)
  rw [List.length_append, List.length_singleton]
  have g1 : ((((l.length + 1 : Nat) : Int)) == 0) = false := by simp; omega
  have g2 : IntKind.i64.wrap (((l.length + 1 : Nat) : Int) - 1) = (l.length : Int) := by rw [IntWalk.i64_in _ (by omega)]; omega
  have j1 : (0 : Int) ≤ (l.length : Int) := by omega
  have j2 : (l.length : Int) < ((l.length + 1 : Nat) : Int) := by omega
  clear hc
  go_enter Tryz.func44, Tryz.ntmps44
  go_wp2_with fail
  go_ret
  exact ⟨rfl, rfl⟩
theorem refLast_nil (p : Option Addr) (c : Nat) (w : World) : Calls Tryz.prog 44 #[.slice p 0 c] w (Ret (.int .i64 0) w) := by
  go_enter Tryz.func44, Tryz.ntmps44
  go_wp2_with fail
  go_ret
  exact ⟨rfl, rfl⟩
end Go.Proofs.YtcpobnknmegkmaaGreatDoor
namespace Go.Proofs.YtcpobnknmegkmaaGreatDoor
open Go.RowKit
set_option linter.unusedVariables false
set_option linter.unusedSimpArgs false
namespace Co
def four (x : UInt8) : Prop := x = 110 ∨ x = 98 ∨ x = 100 ∨ x = 99
theorem four_of {t : T} (h : t.letter ≠ 0) : four t.letter := by
  rcases letter_is t with e | e | e | e | e
  · exact absurd e h
  · exact .inl e
  · exact .inr (.inl e)
  · exact .inr (.inr (.inl e))
  · exact .inr (.inr (.inr e))
theorem want_four {op : Int} {l : List UInt8} {r : UInt8} (h : want op = some (l, r)) (h22 : op ≠ 22) : (∀ k ∈ l, four k) ∧ four r := by
  unfold four
  rcases op_cases (want_in h) with rfl | rfl | rfl | rfl | rfl | rfl | rfl | rfl | rfl | rfl | rfl | rfl | rfl | rfl | rfl | rfl | rfl | rfl | rfl | rfl | rfl | rfl | rfl | rfl | rfl | rfl | rfl | rfl | rfl | rfl | rfl
  all_goals first | exact absurd rfl h22 | skip
  all_goals simp only [want_1, want_2, want_3, want_4, want_5, want_6, want_7, want_8, want_9, want_10, want_11, want_12, want_13, want_14, want_15, want_16, want_17, want_18, want_19, want_20, want_21, want_22, want_23, want_24, want_25, want_26, want_27, want_28, want_29, want_30, want_31] at h
  all_goals
    cases h
    decide
theorem codes_inj : ∀ {l m : List UInt8}, (∀ x ∈ l, four x) → (∀ x ∈ m, four x) → l.map code = m.map code → l = m
  | [], [], _, _, _ => rfl
  | [], _ :: _, _, _, h => by cases h
  | _ :: _, [], _, _, h => by cases h
  | a :: l, b :: m, hl, hm, h => by
    simp only [List.map_cons, List.cons.injEq] at h
    rw [(code_inj (hl a (List.mem_cons_self ..)) (hm b (List.mem_cons_self ..))).1 h.1, codes_inj (fun x hx => hl x (List.mem_cons_of_mem _ hx)) (fun x hx => hm x (List.mem_cons_of_mem _ hx)) h.2]
/-- The types of a term's kids. -/
def codes (ks : List T) : List Int := ks.map fun k => code k.letter
theorem codes_length (ks : List T) : (codes ks).length = ks.length := by unfold codes; rw [List.length_map]
theorem codes_take_one {ks : List T} {i : Nat} {k : T} (h : ks[i]? = some k) : codes (ks.take (i + 1)) = codes (ks.take i) ++ [code k.letter] := by
  unfold codes
  rw [take_one h, List.map_append]
  rfl
theorem fields_of {op n : Int} {s : ByteArray} {ks : List T} (h : (T.mk op n s ks).letter ≠ 0) : fields op n s = true := by
  by_cases h22 : op = 22
  · subst h22
    obtain ⟨a, b, c, -, -, -, -, -, hf⟩ := (letter_22 (x := (T.mk 22 n s ks).letter) h).1 rfl
    exact hf
  · exact (letter_inv rfl h h22).2
theorem want_len {op : Int} {l : List UInt8} {r : UInt8} (h : want op = some (l, r)) : l.length ≤ 3 := by
  rcases op_cases (want_in h) with rfl | rfl | rfl | rfl | rfl | rfl | rfl | rfl | rfl | rfl | rfl | rfl | rfl | rfl | rfl | rfl | rfl | rfl | rfl | rfl | rfl | rfl | rfl | rfl | rfl | rfl | rfl | rfl | rfl | rfl | rfl
  all_goals simp only [want_1, want_2, want_3, want_4, want_5, want_6, want_7, want_8, want_9, want_10, want_11, want_12, want_13, want_14, want_15, want_16, want_17, want_18, want_19, want_20, want_21, want_22, want_23, want_24, want_25, want_26, want_27, want_28, want_29, want_30, want_31] at h
  all_goals
    cases h
    decide
theorem kids_few {op n : Int} {s : ByteArray} {ks : List T} (h : (T.mk op n s ks).letter ≠ 0) : ks.length ≤ 3 := by
  by_cases h22 : op = 22
  · subst h22
    obtain ⟨a, b, c, rfl, -⟩ := (letter_22 (x := (T.mk 22 n s ks).letter) h).1 rfl
    exact Nat.le_refl _
  · obtain ⟨hw, -⟩ := letter_inv rfl h h22
    have := want_len hw
    rwa [List.length_map] at this
theorem letter_rk {op n : Int} {s : ByteArray} {ks : List T} (h22 : op ≠ 22) (hf : fields op n s = true) (hk : ∀ k ∈ ks, k.letter ≠ 0) :
    ((T.mk op n s ks).letter != 0) = ((rk op).2.2 && decide (codes ks = (rk op).1)) ∧ ((T.mk op n s ks).letter ≠ 0 → (rk op).2.1 = code (T.mk op n s ks).letter) := by
  rw [letter_eq h22]
  unfold rk
  rw [if_neg h22]
  cases hw : want op with
  | none => exact ⟨rfl, fun h => absurd rfl h⟩
  | some lr =>
    obtain ⟨l, r⟩ := lr
    obtain ⟨hl, hr⟩ := want_four hw h22
    have hr0 : r ≠ 0 := by rcases hr with rfl | rfl | rfl | rfl <;> decide
    show ((if ks.map T.letter = l ∧ fields op n s = true then r else 0) != 0) = (true && decide (codes ks = l.map code)) ∧ ((if ks.map T.letter = l ∧ fields op n s = true then r else 0) ≠ 0 → code r = code (if ks.map T.letter = l ∧ fields op n s = true then r else 0))
    by_cases hm : ks.map T.letter = l
    · rw [if_pos ⟨hm, hf⟩]
      refine ⟨?_, fun _ => rfl⟩
      have : codes ks = l.map code := by rw [← hm, List.map_map]; rfl
      rw [decide_eq_true this, Bool.true_and, bne_iff_ne]
      exact hr0
    · rw [if_neg (fun h => hm h.1)]
      refine ⟨?_, fun h => absurd rfl h⟩
      have : ¬ codes ks = l.map code := fun e => hm (codes_inj (fun x hx => by
        obtain ⟨k, hk1, rfl⟩ := List.mem_map.1 hx
        exact four_of (hk k hk1)) hl (by rw [← e, List.map_map]; rfl))
      rw [decide_eq_false this]
      rfl
/-- A choice's type. -/
def ck : List Int → Bool
  | [a, b, c] => (a == 1) && ((b == c) && (b != 4))
  | _ => false
theorem letter_ck {n : Int} {s : ByteArray} {ks : List T} (hf : fields 22 n s = true) (hk : ∀ k ∈ ks, k.letter ≠ 0) :
    ((T.mk 22 n s ks).letter != 0) = ck (codes ks) ∧ ((T.mk 22 n s ks).letter ≠ 0 → ∃ a b c, ks = [a, b, c] ∧ code c.letter = code (T.mk 22 n s ks).letter) := by
  refine ⟨?_, fun h => ?_⟩
  · rw [Bool.eq_iff_iff, bne_iff_ne]
    constructor
    · intro h
      obtain ⟨a, b, c, rfl, h1, h2, h3, h4, h5⟩ := (letter_22 (x := (T.mk 22 n s ks).letter) h).1 rfl
      have hb := four_of (hk b (by simp))
      show (code a.letter == 1 && (code b.letter == code c.letter && code b.letter != 4)) = true
      rw [h1, h2, h3]
      rw [h2] at hb
      generalize (T.mk 22 n s [a, b, c]).letter = x at *
      rcases hb with rfl | rfl | rfl | rfl
      · decide
      · decide
      · decide
      · exact absurd rfl h4
    · intro h
      match ks, h with
      | [a, b, c], h =>
        have ha := four_of (hk a (by simp))
        have hb := four_of (hk b (by simp))
        have hc := four_of (hk c (by simp))
        have h' : (code a.letter == 1 && (code b.letter == code c.letter && code b.letter != 4)) = true := h
        simp only [Bool.and_eq_true, beq_iff_eq, bne_iff_ne] at h'
        have e1 : a.letter = 98 := (code_inj ha (.inr (.inl rfl))).1 h'.1
        have e2 : b.letter = c.letter := (code_inj hb hc).1 h'.2.1
        have e3 : b.letter ≠ 99 := fun e => h'.2.2 (by rw [e]; rfl)
        rw [(letter_22 (hk b (by simp))).2 ⟨a, b, c, rfl, e1, rfl, e2.symm, e3, hf⟩]
        exact hk b (by simp)
  · obtain ⟨a, b, c, rfl, h1, h2, h3, h4, h5⟩ := (letter_22 (x := (T.mk 22 n s ks).letter) h).1 rfl
    exact ⟨a, b, c, rfl, by rw [h3]⟩
end Co
end Go.Proofs.YtcpobnknmegkmaaGreatDoor
