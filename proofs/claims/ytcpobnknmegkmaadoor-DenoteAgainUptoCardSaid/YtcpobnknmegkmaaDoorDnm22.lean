/- Proved: lemmas and contracts of the functions that the law reaches, part 22 of 27: OptPlain, OptStep. Conditions: as each states. -/
import Derived.Test.YtcpobnknmegkmaaDoorDnm20
import Derived.Test.YtcpobnknmegkmaaDoorDnm21
namespace Go.Proofs.YtcpobnknmegkmaaDoor
open Go.RowKit
set_option linter.unusedVariables false
set_option linter.unusedSimpArgs false
namespace Co
def leaf (op n : Int) : T := .mk op n ⟨#[]⟩ []
def isC (t : T) : Bool := t.op == 1 || t.op == 2 || t.op == 3
def isNum (t : T) (n : Int) : Bool := t.op == 1 && t.n == n
def isBool (t : T) (n : Int) : Bool := t.op == 2 && t.n == n
def T.kid (t : T) (i : Nat) : T := (t.ks[i]?).getD default
def kidN (t : T) (i : Nat) : Int := ((t.ks[i]?).map T.n).getD 0
def tr (b : Bool) : Int := if b then 1 else 0
def foldOp (op a b : Int) : Option T :=
  if op = 6 then some (leaf 1 (Num.neg a))
  else if op = 7 then some (leaf 1 (Num.add a b))
  else if op = 8 then some (leaf 1 (Num.sub a b))
  else if op = 9 then some (leaf 1 (Num.mul a b))
  else if op = 10 then some (leaf 1 (Num.div a b))
  else if op = 20 then some (leaf 1 (Dt.years a b))
  else if op = 21 then some (leaf 1 (Dt.years30 a b))
  else if op = 14 then some (leaf 2 (tr (decide (a = 0))))
  else if op = 11 ∨ op = 17 then some (leaf 2 (tr (decide (a < b))))
  else if op = 12 then some (leaf 2 (tr (decide (a ≤ b))))
  else if op = 13 then some (leaf 2 (tr (decide (a = b))))
  else if op = 18 then some (leaf 3 (Dt.plus a (Num.whole b)))
  else if op = 19 then some (leaf 3 (Dt.months a (Num.whole b)))
  else none
def fold (t : T) : Option T := if t.ks.length ≤ 2 ∧ t.ks.all isC = true then foldOp t.op (kidN t 0) (kidN t 1) else none
def twice (t : T) : Option T := if (t.op = 6 ∨ t.op = 14 ∨ t.op = 25) ∧ (t.kid 0).op = t.op then some ((t.kid 0).kid 0) else none
/-- Which does nothing: the right one, the left one. -/
def idleL (op : Int) (a b : T) : Bool :=
  if op = 7 then isNum a 0 else if op = 9 then isNum a 1000000 else if op = 15 then isBool a 1 else if op = 16 then isBool a 0 else if op = 27 then a.op == 23
  else if op = 26 then isNum a 1000000 || (a.op == 1 && b.op == 23) else false
def idleR (op : Int) (a b : T) : Bool :=
  if op = 7 then isNum b 0 else if op = 8 then isNum b 0 else if op = 9 then isNum b 1000000 else if op = 10 then isNum b 1000000 else if op = 15 then isBool b 1 else if op = 16 then isBool b 0 else if op = 27 then b.op == 23
  else false
def idle (t : T) : Option T := if t.ks.length = 2 then (if idleL t.op (t.kid 0) (t.kid 1) = true then some (t.kid 1) else if idleR t.op (t.kid 0) (t.kid 1) = true then some (t.kid 0) else none) else none
def settled (t : T) : Option T := if (t.op = 15 ∧ isBool (t.kid 0) 0 = true) ∨ (t.op = 16 ∧ isBool (t.kid 0) 1 = true) ∨ (t.op = 25 ∧ (t.kid 0).op = 23) then some (t.kid 0) else none
def later (t : T) : Option T := if t.op = 29 ∧ (t.kid 0).op = 29 then some (.mk 29 (max t.n (t.kid 0).n) ⟨#[]⟩ (t.kid 0).ks) else none
def chosen (t : T) : Option T := if (t.op = 22 ∨ t.op = 28) ∧ (t.kid 0).op = 2 then some (t.kid (2 - (t.kid 0).n).toNat) else none
def never (t : T) : Option T := if t.op = 30 ∧ isBool (t.kid 0) 0 = true ∧ (t.kid 1).op ≠ 23 then some (.mk 30 t.n ⟨#[]⟩ [t.kid 0, leaf 23 0]) else none
/-- The rules, by their places. -/
def rule (i : Nat) (t : T) : Option T :=
  match i with
  | 0 => fold t
  | 1 => twice t
  | 2 => idle t
  | 3 => settled t
  | 4 => later t
  | 5 => chosen t
  | 6 => never t
  | _ => none
def meas (t : T) : Nat := 2 * t.size - (if t.op = 30 ∧ (t.kid 1).op = 23 then 1 else 0)
/-- What a rule makes of a right term. -/
structure Step (t u : T) : Prop where
  letter : u.letter = t.letter
  meas : meas u < meas t
  size : u.size ≤ t.size
  depth : u.depth ≤ t.depth
  nodes : ∀ x ∈ u.nodes, x ∈ t.nodes ∨ x.1 = 1 ∨ x.1 = 2 ∨ x.1 = 3 ∨ x.1 = 23
  kids : ∀ P : T → Prop, (∀ k ∈ t.ks, P k) → (∀ k : T, P k → ∀ j ∈ k.ks, P j) → P (leaf 23 0) → ∀ k ∈ u.ks, P k
/-- A term's kid, or its kid's. -/
structure Sub (t u : T) : Prop where
  size : u.size < t.size
  depth : u.depth ≤ t.depth
  nodes : ∀ x ∈ u.nodes, x ∈ t.nodes
  kids : ∀ P : T → Prop, (∀ k ∈ t.ks, P k) → (∀ k : T, P k → ∀ j ∈ k.ks, P j) → P u
theorem sub_kid {t k : T} (h : k ∈ t.ks) : Sub t k := by
  obtain ⟨o, n, s, ks⟩ := t
  have h' : k ∈ ks := h
  refine ⟨?_, ?_, fun x hx => ?_, fun P h1 h2 => h1 k h⟩
  · have := sizes_mem h'; rw [T.size]; omega
  · have := depths_mem h'; rw [T.depth]; omega
  · rw [T.nodes]; exact List.mem_cons_of_mem _ (mem_nodess.2 ⟨k, h', hx⟩)
theorem Sub.trans {t u v : T} (h : Sub t u) (k : Sub u v) : Sub t v :=
  ⟨Nat.lt_trans k.size h.size, Nat.le_trans k.depth h.depth, fun x hx => h.nodes x (k.nodes x hx), fun P h1 h2 => k.kids P (h2 u (h.kids P h1 h2)) h2⟩
theorem meas_le (t : T) : meas t ≤ 2 * t.size := Nat.sub_le _ _
theorem meas_ge (t : T) : 2 * t.size - 1 ≤ meas t := by unfold meas; split <;> omega
theorem Sub.step {t u : T} (h : Sub t u) (hl : u.letter = t.letter) : Step t u := by
  refine ⟨hl, ?_, Nat.le_of_lt h.size, h.depth, fun x hx => .inl (h.nodes x hx), fun P h1 h2 h3 => h2 u (h.kids P h1 h2)⟩
  have := meas_le u
  have := meas_ge t
  have := h.size
  omega
theorem leaf_step {t : T} {op n : Int} (hs : 2 ≤ t.size) (ho : op = 1 ∨ op = 2 ∨ op = 3) (hl : (leaf op n).letter = t.letter) : Step t (leaf op n) := by
  have e : (leaf op n).size = 1 := rfl
  have hd : (leaf op n).depth = 1 := rfl
  refine ⟨hl, ?_, by omega, by rw [hd]; exact depth_pos t, fun x hx => ?_, fun P h1 h2 h3 k hk => by cases hk⟩
  · have := meas_le (leaf op n)
    have := meas_ge t
    omega
  · have hx' : x ∈ [(op, n)] := hx
    rw [List.mem_singleton] at hx'
    subst hx'
    right
    rcases ho with h | h | h
    · exact .inl h
    · exact .inr (.inl h)
    · exact .inr (.inr (.inl h))
theorem neg_in (a : Int) : -1000000000000000 ≤ Num.neg a ∧ Num.neg a ≤ 1000000000000000 := by
  have h1 := Num.clamp_le a
  have h2 := Num.clamp_ge a
  unfold Num.neg; omega
theorem sgn_in (b : Bool) (n : Nat) (h : n ≤ 1000000000000000) : -1000000000000000 ≤ Num.sgn b n ∧ Num.sgn b n ≤ 1000000000000000 := by
  cases b <;> simp [Num.sgn] <;> omega
theorem scl_top (x y d : Nat) : Num.scl x y d ≤ 1000000000000000 := by
  unfold Num.scl; split <;> omega
theorem mul_in (a b : Int) : -1000000000000000 ≤ Num.mul a b ∧ Num.mul a b ≤ 1000000000000000 := sgn_in _ _ (scl_top _ _ _)
theorem div_in (a b : Int) : -1000000000000000 ≤ Num.div a b ∧ Num.div a b ≤ 1000000000000000 := by
  unfold Num.div
  split
  · omega
  · exact sgn_in _ _ (scl_top _ _ _)
theorem add_in (a b : Int) : -1000000000000000 ≤ Num.add a b ∧ Num.add a b ≤ 1000000000000000 := ⟨Num.clamp_ge _, Num.clamp_le _⟩
theorem sub_in (a b : Int) : -1000000000000000 ≤ Num.sub a b ∧ Num.sub a b ≤ 1000000000000000 := ⟨Num.clamp_ge _, Num.clamp_le _⟩
theorem years_in (a b : Int) : -1000000000000000 ≤ Dt.years a b ∧ Dt.years a b ≤ 1000000000000000 := by
  unfold Dt.years Dt.ratio
  exact div_in _ _
theorem years30_in (a b : Int) : -1000000000000000 ≤ Dt.years30 a b ∧ Dt.years30 a b ≤ 1000000000000000 := by
  unfold Dt.years30 Dt.ratio
  exact div_in _ _
theorem tr_in (b : Bool) : 0 ≤ tr b ∧ tr b ≤ 1 := by cases b <;> simp [tr]
theorem plus_in (a b : Int) : 0 ≤ Dt.plus a b ∧ Dt.plus a b ≤ 73048 := ⟨Dt.clamp_ge _, Dt.clamp_le _⟩
theorem sumTo_12 (y : Int) : Dt.sumTo (Dt.feb y) 12 = Dt.days y := by
  unfold Dt.feb Dt.days
  split <;> rfl
theorem sumTo_top (y : Int) (i : Nat) (h : i < 12) : Dt.sumTo (Dt.feb y) i + ((Dt.lens (Dt.feb y))[i]?).getD 0 ≤ Dt.days y := by
  rw [← sumTo_12 y]
  have := Dt.feb_in y
  rcases (by omega : i = 0 ∨ i = 1 ∨ i = 2 ∨ i = 3 ∨ i = 4 ∨ i = 5 ∨ i = 6 ∨ i = 7 ∨ i = 8 ∨ i = 9 ∨ i = 10 ∨ i = 11) with rfl | rfl | rfl | rfl | rfl | rfl | rfl | rfl | rfl | rfl | rfl | rfl <;> simp [Dt.sumTo, Dt.lens] <;> omega
theorem ahead_days {y : Int} (h : 1900 ≤ y) (h2 : y ≤ 2099) : Dt.ahead y + Dt.days y ≤ 73049 := by
  by_cases h3 : y ≤ 2098
  · unfold Dt.ahead Dt.days
    split <;> omega
  · obtain rfl : y = 2099 := by omega
    decide
theorem ofD_in {y d : Int} {i : Nat} (h : 1900 ≤ y) (h2 : y ≤ 2099) (hi : i < 12) : 0 ≤ Dt.ofD y i d ∧ Dt.ofD y i d ≤ 73048 := by
  unfold Dt.ofD
  split
  · omega
  · rename_i hn
    have h3 := Dt.ahead_in h (by omega)
    have h4 := ahead_days h h2
    have h5 := sumTo_top y i hi
    have h6 := Dt.sumTo_in y i (by omega)
    omega
theorem months_in (a b : Int) : 0 ≤ Dt.months a b ∧ Dt.months a b ≤ 73048 := by
  unfold Dt.months
  split
  · omega
  · split
    · omega
    · exact ofD_in (by omega) (by omega) (by omega)
theorem num_leaf {n : Int} (h : -1000000000000000 ≤ n ∧ n ≤ 1000000000000000) : (leaf 1 n).letter = 110 := letter_of (by decide) want_1 (fields_num h)
theorem bool_leaf {n : Int} (h : 0 ≤ n ∧ n ≤ 1) : (leaf 2 n).letter = 98 := letter_of (by decide) want_2 (fields_bool h)
theorem day_leaf {n : Int} (h : 0 ≤ n ∧ n ≤ 73048) : (leaf 3 n).letter = 100 := letter_of (by decide) want_3 (fields_day (.inl rfl) h)
theorem zero_leaf : (leaf 23 0).letter = 99 := letter_of (by decide) want_23 fields_zero
/-- What a fold gives. -/
theorem foldOp_letter {op a b : Int} {u : T} (h : foldOp op a b = some u) {l : List UInt8} {x : UInt8} (hw : want op = some (l, x)) : ∃ o n, u = leaf o n ∧ (o = 1 ∨ o = 2 ∨ o = 3) ∧ u.letter = x := by
  rcases op_cases (want_in hw) with rfl | rfl | rfl | rfl | rfl | rfl | rfl | rfl | rfl | rfl | rfl | rfl | rfl | rfl | rfl | rfl | rfl | rfl | rfl | rfl | rfl | rfl | rfl | rfl | rfl | rfl | rfl | rfl | rfl | rfl | rfl
  all_goals first | (exfalso; simp [foldOp] at h; done) | skip
  all_goals simp [foldOp] at h
  all_goals subst h
  all_goals simp only [want_6, want_7, want_8, want_9, want_10, want_11, want_12, want_13, want_14, want_17, want_18, want_19, want_20, want_21] at hw
  all_goals cases hw
  all_goals with_reducible first
    | exact ⟨_, _, rfl, .inl rfl, num_leaf (neg_in _)⟩
    | exact ⟨_, _, rfl, .inl rfl, num_leaf (mul_in _ _)⟩
    | exact ⟨_, _, rfl, .inl rfl, num_leaf (div_in _ _)⟩
    | exact ⟨_, _, rfl, .inl rfl, num_leaf (add_in _ _)⟩
    | exact ⟨_, _, rfl, .inl rfl, num_leaf (sub_in _ _)⟩
    | exact ⟨_, _, rfl, .inl rfl, num_leaf (years_in _ _)⟩
    | exact ⟨_, _, rfl, .inl rfl, num_leaf (years30_in _ _)⟩
    | exact ⟨_, _, rfl, .inr (.inl rfl), bool_leaf (tr_in _)⟩
    | exact ⟨_, _, rfl, .inr (.inr rfl), day_leaf (plus_in _ _)⟩
    | exact ⟨_, _, rfl, .inr (.inr rfl), day_leaf (months_in _ _)⟩
end Co
end Go.Proofs.YtcpobnknmegkmaaDoor
namespace Go.Proofs.YtcpobnknmegkmaaDoor
open Go.RowKit
set_option linter.unusedVariables false
set_option linter.unusedSimpArgs false
namespace Co
theorem ne_22 {t : T} {op : Int} (h : t.op = op) (h2 : op ≠ 22) : t.op ≠ 22 := h ▸ h2
/-- The kids' letters of a right term. -/
theorem open_kids {t : T} {l : List UInt8} {r : UInt8} (ho : t.op ≠ 22) (hw : want t.op = some (l, r)) (hx : t.letter ≠ 0) : t.ks.map T.letter = l ∧ t.letter = r ∧ fields t.op t.n t.s = true := by
  obtain ⟨op, n, s, ks⟩ := t
  obtain ⟨h1, h2⟩ := letter_inv rfl hx ho
  have hw' : want op = some (l, r) := hw
  rw [hw'] at h1
  simp only [Option.some.injEq, Prod.mk.injEq] at h1
  exact ⟨h1.1.symm, h1.2.symm, h2⟩
theorem one_kid {t : T} {a : UInt8} (h : t.ks.map T.letter = [a]) : ∃ k, t.ks = [k] ∧ k.letter = a ∧ t.kid 0 = k := by
  match hk : t.ks with
  | [k] => rw [hk] at h; exact ⟨k, rfl, by simpa using h, by simp [T.kid, hk]⟩
  | [] => rw [hk] at h; cases h
  | _ :: _ :: _ => rw [hk] at h; simp at h
theorem two_kids {t : T} {a b : UInt8} (h : t.ks.map T.letter = [a, b]) : ∃ k j, t.ks = [k, j] ∧ (k.letter = a ∧ j.letter = b) ∧ t.kid 0 = k ∧ t.kid 1 = j := by
  match hk : t.ks with
  | [k, j] => rw [hk] at h; exact ⟨k, j, rfl, by simpa using h, by simp [T.kid, hk], by simp [T.kid, hk]⟩
  | [] => rw [hk] at h; cases h
  | [_] => rw [hk] at h; simp at h
  | _ :: _ :: _ :: _ => rw [hk] at h; simp at h
theorem three_kids {t : T} {a b c : UInt8} (h : t.ks.map T.letter = [a, b, c]) : ∃ k j i, t.ks = [k, j, i] ∧ (k.letter = a ∧ j.letter = b ∧ i.letter = c) ∧ t.kid 0 = k ∧ t.kid 1 = j ∧ t.kid 2 = i := by
  match hk : t.ks with
  | [k, j, i] => rw [hk] at h; exact ⟨k, j, i, rfl, by simpa using h, by simp [T.kid, hk], by simp [T.kid, hk], by simp [T.kid, hk]⟩
  | [] => rw [hk] at h; cases h
  | [_] => rw [hk] at h; simp at h
  | [_, _] => rw [hk] at h; simp at h
  | _ :: _ :: _ :: _ :: _ => rw [hk] at h; simp at h
theorem size_two {t : T} (h : t.ks ≠ []) : 2 ≤ t.size := by
  obtain ⟨o, n, s, ks⟩ := t
  match ks, h with
  | k :: r, _ =>
    have := size_pos k
    rw [T.size, sizes]
    omega
theorem twice_step {t u : T} (h : twice t = some u) (hx : t.letter ≠ 0) : Step t u := by
  unfold twice at h
  split at h
  · rename_i hc
    obtain ⟨ho, hk⟩ := hc
    cases h
    have go : ∀ (op : Int) (a : UInt8), op ≠ 22 → want op = some ([a], a) → a ≠ 0 → t.op = op → Step t ((t.kid 0).kid 0) := by
      intro op a h22 hw ha e
      obtain ⟨h1, h2, -⟩ := open_kids (t := t) (by rw [e]; exact h22) (by rw [e]; exact hw) hx
      obtain ⟨k, hk1, hk2, hk3⟩ := one_kid h1
      rw [hk3] at hk ⊢
      obtain ⟨h3, h4, -⟩ := open_kids (t := k) (by rw [hk, e]; exact h22) (by rw [hk, e]; exact hw) (by rw [hk2]; exact ha)
      obtain ⟨j, hj1, hj2, hj3⟩ := one_kid h3
      rw [hj3]
      refine ((sub_kid (t := t) (k := k) (by rw [hk1]; simp)).trans (sub_kid (t := k) (k := j) (by rw [hj1]; simp))).step ?_
      rw [h2, hj2]
    rcases ho with e | e | e
    · exact go 6 110 (by decide) want_6 (by decide) e
    · exact go 14 98 (by decide) want_14 (by decide) e
    · exact go 25 99 (by decide) want_25 (by decide) e
  · cases h
theorem fold_step {t u : T} (h : fold t = some u) (hx : t.letter ≠ 0) : Step t u := by
  unfold fold at h
  split at h
  · by_cases h22 : t.op = 22
    · rw [h22] at h
      simp [foldOp] at h
    · obtain ⟨op, n, s, ks⟩ := t
      obtain ⟨h1, h2⟩ := letter_inv rfl hx h22
      obtain ⟨o, m, rfl, ho, hl⟩ := foldOp_letter h h1
      refine leaf_step (size_two ?_) ho hl
      intro e
      have e' : ks = [] := e
      subst e'
      rcases op_cases (want_in h1) with rfl | rfl | rfl | rfl | rfl | rfl | rfl | rfl | rfl | rfl | rfl | rfl | rfl | rfl | rfl | rfl | rfl | rfl | rfl | rfl | rfl | rfl | rfl | rfl | rfl | rfl | rfl | rfl | rfl | rfl | rfl
      all_goals first
        | (simp [foldOp, T.op] at h; done)
        | (simp [want_6, want_7, want_8, want_9, want_10, want_11, want_12, want_13, want_14, want_17, want_18, want_19, want_20, want_21] at h1; done)
  · cases h
theorem idle_step {t u : T} (h : idle t = some u) (hx : t.letter ≠ 0) : Step t u := by
  unfold idle at h
  split at h
  · rename_i hlen
    obtain ⟨a, b, hk⟩ : ∃ a b, t.ks = [a, b] := by
      match hk : t.ks with
      | [a, b] => exact ⟨a, b, rfl⟩
      | [] => rw [hk] at hlen; cases hlen
      | [_] => rw [hk] at hlen; simp at hlen
      | _ :: _ :: _ :: _ => rw [hk] at hlen; simp at hlen
    have ka : t.kid 0 = a := by simp [T.kid, hk]
    have kb : t.kid 1 = b := by simp [T.kid, hk]
    rw [ka, kb] at h
    have hsa : Sub t a := sub_kid (by rw [hk]; simp)
    have hsb : Sub t b := sub_kid (by rw [hk]; simp)
    have same : ∀ (op : Int) (x : UInt8), op ≠ 22 → want op = some ([x, x], x) → t.op = op → a.letter = t.letter ∧ b.letter = t.letter := by
      intro op x h22 hw e
      obtain ⟨h1, h2, -⟩ := open_kids (t := t) (by rw [e]; exact h22) (by rw [e]; exact hw) hx
      rw [hk] at h1
      simp at h1
      rw [h2]
      exact h1
    have scale : t.op = 26 → b.letter = t.letter := by
      intro e
      obtain ⟨h1, h2, -⟩ := open_kids (t := t) (by rw [e]; decide) (by rw [e]; exact want_26) hx
      rw [hk] at h1
      simp at h1
      rw [h2]
      exact h1.2
    split at h
    · rename_i hl
      cases h
      refine hsb.step ?_
      unfold idleL at hl
      split at hl
      · rename_i e; exact (same 7 110 (by decide) want_7 e).2
      split at hl
      · rename_i e; exact (same 9 110 (by decide) want_9 e).2
      split at hl
      · rename_i e; exact (same 15 98 (by decide) want_15 e).2
      split at hl
      · rename_i e; exact (same 16 98 (by decide) want_16 e).2
      split at hl
      · rename_i e; exact (same 27 99 (by decide) want_27 e).2
      split at hl
      · rename_i e; exact scale e
      · cases hl
    · split at h
      · rename_i hr
        cases h
        refine hsa.step ?_
        unfold idleR at hr
        split at hr
        · rename_i e; exact (same 7 110 (by decide) want_7 e).1
        split at hr
        · rename_i e; exact (same 8 110 (by decide) want_8 e).1
        split at hr
        · rename_i e; exact (same 9 110 (by decide) want_9 e).1
        split at hr
        · rename_i e; exact (same 10 110 (by decide) want_10 e).1
        split at hr
        · rename_i e; exact (same 15 98 (by decide) want_15 e).1
        split at hr
        · rename_i e; exact (same 16 98 (by decide) want_16 e).1
        split at hr
        · rename_i e; exact (same 27 99 (by decide) want_27 e).1
        · cases hr
      · cases h
  · cases h
theorem settled_step {t u : T} (h : settled t = some u) (hx : t.letter ≠ 0) : Step t u := by
  unfold settled at h
  split at h
  · rename_i hc
    cases h
    rcases hc with ⟨e, -⟩ | ⟨e, -⟩ | ⟨e, -⟩
    · obtain ⟨h1, h2, -⟩ := open_kids (t := t) (by rw [e]; decide) (by rw [e]; exact want_15) hx
      obtain ⟨k, j, hk1, hk2, hk3, -⟩ := two_kids h1
      rw [hk3]
      exact (sub_kid (t := t) (k := k) (by rw [hk1]; simp)).step (by rw [h2, hk2.1])
    · obtain ⟨h1, h2, -⟩ := open_kids (t := t) (by rw [e]; decide) (by rw [e]; exact want_16) hx
      obtain ⟨k, j, hk1, hk2, hk3, -⟩ := two_kids h1
      rw [hk3]
      exact (sub_kid (t := t) (k := k) (by rw [hk1]; simp)).step (by rw [h2, hk2.1])
    · obtain ⟨h1, h2, -⟩ := open_kids (t := t) (by rw [e]; decide) (by rw [e]; exact want_25) hx
      obtain ⟨k, hk1, hk2, hk3⟩ := one_kid h1
      rw [hk3]
      exact (sub_kid (t := t) (k := k) (by rw [hk1]; simp)).step (by rw [h2, hk2])
  · cases h
theorem later_step {t u : T} (h : later t = some u) (hx : t.letter ≠ 0) : Step t u := by
  unfold later at h
  split at h
  · rename_i hc
    obtain ⟨e, e2⟩ := hc
    cases h
    obtain ⟨h1, h2, h3⟩ := open_kids (t := t) (by rw [e]; decide) (by rw [e]; exact want_29) hx
    obtain ⟨k, hk1, hk2, hk3⟩ := one_kid h1
    rw [hk3] at e2 ⊢
    obtain ⟨h4, h5, h6⟩ := open_kids (t := k) (by rw [e2]; decide) (by rw [e2]; exact want_29) (by rw [hk2]; decide)
    obtain ⟨j, hj1, hj2, hj3⟩ := one_kid h4
    rw [e] at h3
    rw [e2] at h6
    have d1 := day_of (.inr (.inl rfl)) h3
    have d2 := day_of (.inr (.inl rfl)) h6
    have hl : (T.mk 29 (max t.n k.n) ⟨#[]⟩ k.ks).letter = t.letter := by
      rw [h2]
      refine letter_of (by decide) ?_ (fields_day (.inr (.inl rfl)) (by omega))
      rw [hj1, want_29]
      simp [hj2]
    obtain ⟨o, n, s, ks⟩ := t
    obtain ⟨o2, n2, s2, ks2⟩ := k
    have ek : ks = [T.mk o2 n2 s2 ks2] := hk1
    subst ek
    have ee : o = 29 := e
    have ee2 : o2 = 29 := e2
    subst ee ee2
    refine ⟨hl, ?_, ?_, ?_, fun x hx => ?_, fun P h1 h2 h3 k hk => ?_⟩
    · have a1 := meas_le (T.mk 29 (max n n2) ⟨#[]⟩ ks2)
      have a2 := meas_ge (T.mk 29 n s [T.mk 29 n2 s2 ks2])
      have a3 : (T.mk 29 (max n n2) ⟨#[]⟩ ks2).size = 1 + sizes ks2 := by rw [T.size]
      have a4 : (T.mk 29 n s [T.mk 29 n2 s2 ks2]).size = 1 + (1 + sizes ks2 + 0) := by rw [T.size, sizes, sizes, T.size]
      show meas (T.mk 29 (max n n2) ⟨#[]⟩ ks2) < _
      omega
    · show (T.mk 29 (max n n2) ⟨#[]⟩ ks2).size ≤ _
      rw [T.size, T.size, sizes, T.size]
      omega
    · show (T.mk 29 (max n n2) ⟨#[]⟩ ks2).depth ≤ _
      rw [T.depth, T.depth, depths, T.depth]
      omega
    · have hx' : x ∈ (29, max n n2) :: nodess ks2 := hx
      have e : (T.mk 29 n s [T.mk 29 n2 s2 ks2]).nodes = (29, n) :: (((29, n2) :: nodess ks2) ++ []) := by rw [T.nodes, nodess, T.nodes, nodess]
      rw [e]
      left
      rcases List.mem_cons.1 hx' with rfl | hx'
      · rcases (by omega : max n n2 = n ∨ max n n2 = n2) with h | h <;> rw [h] <;> simp
      · simp [hx']
    · exact h2 (T.mk 29 n2 s2 ks2) (h1 _ (by show _ ∈ [_]; simp)) k hk
  · cases h
theorem chosen_step {t u : T} (h : chosen t = some u) (hx : t.letter ≠ 0) : Step t u := by
  unfold chosen at h
  split at h
  · rename_i hc
    obtain ⟨ho, e2⟩ := hc
    cases h
    have h3 : ∃ k j i, t.ks = [k, j, i] ∧ (k.letter = 98 ∧ j.letter = t.letter ∧ i.letter = t.letter) ∧ t.kid 0 = k ∧ t.kid 1 = j ∧ t.kid 2 = i := by
      rcases ho with e | e
      · obtain ⟨o, n, s, ks⟩ := t
        have ee : o = 22 := e
        subst ee
        obtain ⟨a, b, c, rfl, l1, l2, l3, -, -⟩ := (letter_22 hx).1 rfl
        exact ⟨a, b, c, rfl, ⟨l1, l2, l3⟩, rfl, rfl, rfl⟩
      · obtain ⟨h1, h2, -⟩ := open_kids (t := t) (by rw [e]; decide) (by rw [e]; exact want_28) hx
        obtain ⟨k, j, i, a1, a2, a3, a4, a5⟩ := three_kids h1
        exact ⟨k, j, i, a1, by rw [h2]; exact a2, a3, a4, a5⟩
    obtain ⟨k, j, i, a1, ⟨l1, l2, l3⟩, a3, a4, a5⟩ := h3
    rw [a3] at e2 ⊢
    obtain ⟨-, -, hf⟩ := open_kids (t := k) (by rw [e2]; decide) (by rw [e2]; exact want_2) (by rw [l1]; decide)
    rw [e2] at hf
    rcases bool_of hf with e | e
    · rw [e]
      show Step t (t.kid 2)
      rw [a5]
      exact (sub_kid (t := t) (k := i) (by rw [a1]; simp)).step l3
    · rw [e]
      show Step t (t.kid 1)
      rw [a4]
      exact (sub_kid (t := t) (k := j) (by rw [a1]; simp)).step l2
  · cases h
theorem never_step {t u : T} (h : never t = some u) (hx : t.letter ≠ 0) : Step t u := by
  unfold never at h
  split at h
  · rename_i hc
    obtain ⟨e, hb, hz⟩ := hc
    cases h
    obtain ⟨h1, h2, h3⟩ := open_kids (t := t) (by rw [e]; decide) (by rw [e]; exact want_30) hx
    obtain ⟨k, j, hk1, hk2, hk3, hk4⟩ := two_kids h1
    rw [hk4] at hz
    rw [hk3] at hb ⊢
    rw [e] at h3
    have hl : (T.mk 30 t.n ⟨#[]⟩ [k, leaf 23 0]).letter = t.letter := by
      rw [h2]
      refine letter_of (by decide) ?_ (fields_day (.inr (.inr rfl)) (day_of (.inr (.inr rfl)) h3))
      rw [want_30]
      simp [hk2.1, zero_leaf]
    obtain ⟨o, n, s, ks⟩ := t
    have ek : ks = [k, j] := hk1
    subst ek
    have ee : o = 30 := e
    subst ee
    have p1 := size_pos j
    have z1 : (leaf 23 0).size = 1 := rfl
    have z2 : (leaf 23 0).depth = 1 := rfl
    have p2 := depth_pos j
    have s1 : (T.mk 30 n ⟨#[]⟩ [k, leaf 23 0]).size = 1 + (k.size + (1 + 0)) := by rw [T.size, sizes, sizes, sizes, z1]
    have s2 : (T.mk 30 n s [k, j]).size = 1 + (k.size + (j.size + 0)) := by rw [T.size, sizes, sizes, sizes]
    refine ⟨hl, ?_, ?_, ?_, fun x hx => ?_, fun P h1 h2 h3 q hq => ?_⟩
    · have m1 : meas (T.mk 30 n ⟨#[]⟩ [k, leaf 23 0]) = 2 * (T.mk 30 n ⟨#[]⟩ [k, leaf 23 0]).size - 1 := by
        unfold meas
        rw [if_pos ⟨rfl, rfl⟩]
      have m2 : meas (T.mk 30 n s [k, j]) = 2 * (T.mk 30 n s [k, j]).size := by
        unfold meas
        rw [if_neg (fun h => hz h.2)]
        rfl
      show meas (T.mk 30 n ⟨#[]⟩ [k, leaf 23 0]) < _
      rw [m1, m2]
      omega
    · show (T.mk 30 n ⟨#[]⟩ [k, leaf 23 0]).size ≤ _
      omega
    · show (T.mk 30 n ⟨#[]⟩ [k, leaf 23 0]).depth ≤ _
      rw [T.depth, T.depth, depths, depths, depths, depths, depths, z2]
      omega
    · have hx' : x ∈ (T.mk 30 n ⟨#[]⟩ [k, leaf 23 0]).nodes := hx
      have e1 : (T.mk 30 n ⟨#[]⟩ [k, leaf 23 0]).nodes = (30, n) :: (k.nodes ++ [(23, 0)]) := by rw [T.nodes, nodess, nodess, nodess]; rfl
      have e2 : (T.mk 30 n s [k, j]).nodes = (30, n) :: (k.nodes ++ (j.nodes ++ [])) := by rw [T.nodes, nodess, nodess, nodess]
      rw [e1] at hx'
      rw [e2]
      rcases List.mem_cons.1 hx' with rfl | hx'
      · left; simp
      · rcases List.mem_append.1 hx' with hx' | hx'
        · left; simp [hx']
        · rw [List.mem_singleton] at hx'
          subst hx'
          exact .inr (.inr (.inr (.inr rfl)))
    · have hq' : q ∈ [k, leaf 23 0] := hq
      simp only [List.mem_cons, List.not_mem_nil, or_false] at hq'
      rcases hq' with rfl | rfl
      · exact h1 _ (by show _ ∈ [_, _]; simp)
      · exact h3
  · cases h
theorem rule_step {i : Nat} {t u : T} (h : rule i t = some u) (hx : t.letter ≠ 0) : Step t u := by
  unfold rule at h
  split at h
  · exact fold_step h hx
  · exact twice_step h hx
  · exact idle_step h hx
  · exact settled_step h hx
  · exact later_step h hx
  · exact chosen_step h hx
  · exact never_step h hx
  · cases h
end Co
end Go.Proofs.YtcpobnknmegkmaaDoor
