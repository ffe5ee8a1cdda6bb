/- Proved: lemmas and contracts of the functions that the law reaches, part 23 of 28: DnPlain, DnChain, DnEndP, DnEndF, DnMach, DnKid, DnReckon, DnObs, DnSame, DnShift, DnFeed. Conditions: as each states. -/
import Derived.Laws.OwnMore
import Derived.IntWalk
import Derived.Deep.DeepCutAuto
import Derived.WalkMore
import Derived.Scope
import Derived.Laws.StructEq
import Derived.Test.YtcpobnknmegkmaaGreatDoorDne8
import Derived.Test.YtcpobnknmegkmaaGreatDoorDne10
import Derived.Test.YtcpobnknmegkmaaGreatDoorDne12
import Derived.Test.YtcpobnknmegkmaaGreatDoorDne13
import Derived.Test.YtcpobnknmegkmaaGreatDoorDne19
import Derived.Test.YtcpobnknmegkmaaGreatDoorDne20
import Derived.Test.YtcpobnknmegkmaaGreatDoorDne21
import Derived.Test.YtcpobnknmegkmaaGreatDoorDne22
namespace Go.Proofs.YtcpobnknmegkmaaGreatDoor
open Go.RowKit
set_option linter.unusedVariables false
set_option linter.unusedSimpArgs false
namespace Dn
open Co
/-- What is seen on a day. -/
structure Eyes where
  day : Int
  feed : ByteArray → Int → Option Int
def eyes (F : List Fd.Feed) (day : Int) : Eyes := ⟨day, fun s n => Fd.tells F day s n⟩
/-- What two kids come to. -/
def rk (op a b : Int) : Int :=
  if op = 7 then Num.add a b
  else if op = 8 then Num.sub a b
  else if op = 9 then Num.mul a b
  else if op = 10 then Num.div a b
  else if op = 11 ∨ op = 17 then tr (decide (a < b))
  else if op = 12 then tr (decide (a ≤ b))
  else if op = 13 then tr (decide (a = b))
  else if op = 18 then Dt.plus a (Num.whole b)
  else if op = 19 then Dt.months a (Num.whole b)
  else if op = 20 then Dt.years a b
  else Dt.years30 a b
def second (op a : Int) (o : Option Int) : Option Int := match o with | none => none | some b => some (rk op a b)
/-- What a term is, its first kid being a. -/
def after (op a : Int) (vs : List (Option Int)) : Option Int :=
  if op = 6 then some (Num.neg a)
  else if op = 14 then some (1 - a)
  else if (op = 15 ∧ a = 0) ∨ (op = 16 ∧ a = 1) then some a
  else if op = 15 ∨ op = 16 then vs.getD 1 none
  else if op = 22 then vs.getD (2 - a).toNat none
  else second op a (vs.getD 1 none)
def thenV (op : Int) (o : Option Int) (vs : List (Option Int)) : Option Int := match o with | none => none | some a => after op a vs
def val1 (E : Eyes) (op n : Int) (s : ByteArray) (vs : List (Option Int)) : Option Int :=
  if op = 1 ∨ op = 2 ∨ op = 3 then some n
  else if op = 4 then E.feed s n
  else if op = 5 then some (Dt.plus E.day (-n))
  else thenV op (vs.getD 0 none) vs
mutual
/-- What an observable is; none: it is not known. -/
def value (E : Eyes) : T → Option Int
  | .mk op n s ks => val1 E op n s (values E ks)
def values (E : Eyes) : List T → List (Option Int)
  | [] => []
  | k :: r => value E k :: values E r
end
theorem values_map (E : Eyes) (ks : List T) : values E ks = ks.map (value E) := by
  induction ks with
  | nil => rfl
  | cons a r ih => rw [values, ih]; rfl
/-- What waits, what is transferred. -/
abbrev R := List (Int × Int) × List (ByteArray × Int)
def nothing : R := ([], [])
def waitR (a f : Int) : R := ([(a, f)], [])
def both (x y : R) : R := (x.1 ++ y.1, x.2 ++ y.2)
def kidR (fs : List (Int → Int → R)) (zs : List Nat) (i : Nat) (a f : Int) : R := (fs.getD i fun _ _ => nothing) (a + 1 + ((zs.take i).sum : Nat)) f
def thenR (op : Int) (o : Option Int) (fs : List (Int → Int → R)) (zs : List Nat) (a f : Int) : R := match o with
  | none => waitR a f
  | some x => if op = 26 then kidR fs zs 1 a (Num.mul f x) else kidR fs zs (2 - x).toNat a f
def acq1 (E : Eyes) (op n : Int) (s : ByteArray) (o : Option Int) (fs : List (Int → Int → R)) (zs : List Nat) (a f : Int) : R :=
  if op = 23 then nothing
  else if op = 24 then ([], if f = 0 then [] else [(s, f)])
  else if op = 25 then kidR fs zs 0 a (Num.neg f)
  else if op = 27 then both (kidR fs zs 0 a f) (kidR fs zs 1 a f)
  else if op = 29 then (if n ≤ E.day then kidR fs zs 0 a f else waitR a f)
  else if op = 31 then (if n < E.day then kidR fs zs 1 a f else waitR a f)
  else if op = 30 then (if n < E.day then nothing else if o = some 1 then kidR fs zs 1 a f else waitR a f)
  else thenR op o fs zs a f
mutual
/-- What a contract does when it is acquired at a place, with a factor. -/
def acq (E : Eyes) : T → Int → Int → R
  | .mk op n s ks => acq1 E op n s ((values E ks).getD 0 none) (acqs E ks) (ks.map T.size)
def acqs (E : Eyes) : List T → List (Int → Int → R)
  | [] => []
  | k :: r => acq E k :: acqs E r
end
theorem acqs_map (E : Eyes) (ks : List T) : acqs E ks = ks.map (acq E) := by
  induction ks with
  | nil => rfl
  | cons a r ih => rw [acqs, ih]; rfl
theorem sizes_sum (ks : List T) : (ks.map T.size).sum = sizes ks := by
  induction ks with
  | nil => rfl
  | cons a r ih => rw [List.map_cons, List.sum_cons, ih, sizes]
/-- A kid's part. -/
def kidA (E : Eyes) (ks : List T) (i : Nat) (a f : Int) : R := kidR (acqs E ks) (ks.map T.size) i a f
theorem kidA_at {E : Eyes} {ks : List T} {i : Nat} {k : T} (h : ks[i]? = some k) (a f : Int) : kidA E ks i a f = acq E k (a + 1 + (sizes (ks.take i) : Nat)) f := by
  unfold kidA kidR
  rw [acqs_map, List.getD_eq_getElem?_getD, List.getElem?_map, h, ← List.map_take, sizes_sum]
  rfl
theorem acq_eq (E : Eyes) (op n : Int) (s : ByteArray) (ks : List T) (a f : Int) : acq E (.mk op n s ks) a f = acq1 E op n s ((values E ks).getD 0 none) (acqs E ks) (ks.map T.size) a f := by rw [acq]
section
variable (E : Eyes) (n : Int) (s : ByteArray) (ks : List T) (a f : Int)
theorem acq_23 : acq E (.mk 23 n s ks) a f = nothing := by rw [acq_eq]; rfl
theorem acq_24 : acq E (.mk 24 n s ks) a f = ([], if f = 0 then [] else [(s, f)]) := by rw [acq_eq]; rfl
theorem acq_25 : acq E (.mk 25 n s ks) a f = kidA E ks 0 a (Num.neg f) := by rw [acq_eq]; rfl
theorem acq_27 : acq E (.mk 27 n s ks) a f = both (kidA E ks 0 a f) (kidA E ks 1 a f) := by rw [acq_eq]; rfl
theorem acq_29 : acq E (.mk 29 n s ks) a f = if n ≤ E.day then kidA E ks 0 a f else waitR a f := by rw [acq_eq]; rfl
theorem acq_31 : acq E (.mk 31 n s ks) a f = if n < E.day then kidA E ks 1 a f else waitR a f := by rw [acq_eq]; rfl
theorem acq_30 : acq E (.mk 30 n s ks) a f = if n < E.day then nothing else if (values E ks).getD 0 none = some 1 then kidA E ks 1 a f else waitR a f := by rw [acq_eq]; rfl
theorem acq_26 : acq E (.mk 26 n s ks) a f = match (values E ks).getD 0 none with | none => waitR a f | some x => kidA E ks 1 a (Num.mul f x) := by rw [acq_eq]; rfl
theorem acq_28 : acq E (.mk 28 n s ks) a f = match (values E ks).getD 0 none with | none => waitR a f | some x => kidA E ks (2 - x).toNat a f := by rw [acq_eq]; rfl
end
theorem values_at {E : Eyes} {ks : List T} {i : Nat} {k : T} (h : ks[i]? = some k) : (values E ks).getD i none = value E k := by
  rw [values_map, List.getD_eq_getElem?_getD, List.getElem?_map, h]
  rfl
/-- What the eyes tell is a number. -/
def EyesOk (E : Eyes) : Prop := ∀ s n v, E.feed s n = some v → -1000000000000000 ≤ v ∧ v ≤ 1000000000000000
theorem eyes_ok {F : List Fd.Feed} (h : Fd.Ok F) (day : Int) : EyesOk (eyes F day) := by
  intro s n v hv
  have hv' : Fd.tells F day s n = some v := hv
  unfold Fd.tells at hv'
  split at hv'
  · cases hv'
  · rename_i f hf
    split at hv'
    · split at hv'
      · cases hv'
      · rename_i hu
        have hle := Fd.upto_le f.2 (day - n)
        have hk : f.2[Fd.upto f.2 (day - n) - 1]? = some (Fd.stampAt f.2 (Fd.upto f.2 (day - n) - 1)) := by
          unfold Fd.stampAt
          rw [List.getElem?_eq_getElem (by omega)]
          rfl
        have := ((h.2 _ _ hf).stamps _ _ hk).num
        obtain rfl := Option.some.inj hv'
        rw [this]
        exact ⟨Num.clamp_ge _, Num.clamp_le _⟩
    · cases hv'
/-- A value is what its type says. -/
def Ty (x : UInt8) (v : Int) : Prop := (x = 98 → v = 0 ∨ v = 1) ∧ (x = 100 → 0 ≤ v ∧ v ≤ 73048) ∧ -1000000000000000 ≤ v ∧ v ≤ 1000000000000000
theorem ty_num {v : Int} (h : -1000000000000000 ≤ v ∧ v ≤ 1000000000000000) : Ty 110 v := ⟨fun e => absurd e (by decide), fun e => absurd e (by decide), h⟩
theorem ty_day {v : Int} (h : 0 ≤ v ∧ v ≤ 73048) : Ty 100 v := ⟨fun e => absurd e (by decide), fun _ => h, by omega⟩
theorem ty_bool {v : Int} (h : v = 0 ∨ v = 1) : Ty 98 v := ⟨fun _ => h, fun e => absurd e (by decide), by omega⟩
theorem tr_01 (b : Bool) : tr b = 0 ∨ tr b = 1 := by cases b <;> simp [tr]
theorem tr_ty (b : Bool) : Ty 98 (tr b) := ty_bool (tr_01 b)
theorem rk_7 (a b : Int) : rk 7 a b = Num.add a b := by unfold rk; simp only [Int.reduceEq, if_true, if_false, or_true, true_or, or_self, or_false, false_or, ↓reduceIte]
theorem rk_8 (a b : Int) : rk 8 a b = Num.sub a b := by unfold rk; simp only [Int.reduceEq, if_true, if_false, or_true, true_or, or_self, or_false, false_or, ↓reduceIte]
theorem rk_9 (a b : Int) : rk 9 a b = Num.mul a b := by unfold rk; simp only [Int.reduceEq, if_true, if_false, or_true, true_or, or_self, or_false, false_or, ↓reduceIte]
theorem rk_10 (a b : Int) : rk 10 a b = Num.div a b := by unfold rk; simp only [Int.reduceEq, if_true, if_false, or_true, true_or, or_self, or_false, false_or, ↓reduceIte]
theorem rk_11 (a b : Int) : rk 11 a b = tr (decide (a < b)) := by unfold rk; simp only [Int.reduceEq, if_true, if_false, or_true, true_or, or_self, or_false, false_or, ↓reduceIte]
theorem rk_12 (a b : Int) : rk 12 a b = tr (decide (a ≤ b)) := by unfold rk; simp only [Int.reduceEq, if_true, if_false, or_true, true_or, or_self, or_false, false_or, ↓reduceIte]
theorem rk_13 (a b : Int) : rk 13 a b = tr (decide (a = b)) := by unfold rk; simp only [Int.reduceEq, if_true, if_false, or_true, true_or, or_self, or_false, false_or, ↓reduceIte]
theorem rk_17 (a b : Int) : rk 17 a b = tr (decide (a < b)) := by unfold rk; simp only [Int.reduceEq, if_true, if_false, or_true, true_or, or_self, or_false, false_or, ↓reduceIte]
theorem rk_18 (a b : Int) : rk 18 a b = Dt.plus a (Num.whole b) := by unfold rk; simp only [Int.reduceEq, if_true, if_false, or_true, true_or, or_self, or_false, false_or, ↓reduceIte]
theorem rk_19 (a b : Int) : rk 19 a b = Dt.months a (Num.whole b) := by unfold rk; simp only [Int.reduceEq, if_true, if_false, or_true, true_or, or_self, or_false, false_or, ↓reduceIte]
theorem rk_20 (a b : Int) : rk 20 a b = Dt.years a b := by unfold rk; simp only [Int.reduceEq, if_true, if_false, or_true, true_or, or_self, or_false, false_or, ↓reduceIte]
theorem rk_21 (a b : Int) : rk 21 a b = Dt.years30 a b := by unfold rk; simp only [Int.reduceEq, if_true, if_false, or_true, true_or, or_self, or_false, false_or, ↓reduceIte]
theorem rk_ty {op : Int} {l : List UInt8} {x : UInt8} (hw : want op = some (l, x)) (h : 7 ≤ op ∧ op ≤ 21 ∧ op ≠ 14 ∧ op ≠ 15 ∧ op ≠ 16) (a b : Int) : Ty x (rk op a b) := by
  have hc : op = 7 ∨ op = 8 ∨ op = 9 ∨ op = 10 ∨ op = 11 ∨ op = 12 ∨ op = 13 ∨ op = 17 ∨ op = 18 ∨ op = 19 ∨ op = 20 ∨ op = 21 := by omega
  clear h
  rcases hc with rfl | rfl | rfl | rfl | rfl | rfl | rfl | rfl | rfl | rfl | rfl | rfl
  all_goals
    simp only [want_7, want_8, want_9, want_10, want_11, want_12, want_13, want_17, want_18, want_19, want_20, want_21] at hw
    cases hw
  · rw [rk_7]; exact ty_num (add_in _ _)
  · rw [rk_8]; exact ty_num (sub_in _ _)
  · rw [rk_9]; exact ty_num (mul_in _ _)
  · rw [rk_10]; exact ty_num (div_in _ _)
  · rw [rk_11]; exact tr_ty _
  · rw [rk_12]; exact tr_ty _
  · rw [rk_13]; exact tr_ty _
  · rw [rk_17]; exact tr_ty _
  · rw [rk_18]; exact ty_day (plus_in _ _)
  · rw [rk_19]; exact ty_day (months_in _ _)
  · rw [rk_20]; exact ty_num (years_in _ _)
  · rw [rk_21]; exact ty_num (years30_in _ _)
theorem second_ty {op : Int} {l : List UInt8} {x : UInt8} (hw : want op = some (l, x)) (h : 7 ≤ op ∧ op ≤ 21 ∧ op ≠ 14 ∧ op ≠ 15 ∧ op ≠ 16) (a : Int) {vs : List (Option Int)} {v : Int} (hv : after op a vs = some v) : Ty x v := by
  unfold after second at hv
  rw [if_neg (by omega), if_neg (by omega), if_neg (by omega), if_neg (by omega), if_neg (by omega)] at hv
  split at hv
  · cases hv
  · obtain rfl := Option.some.inj hv
    exact rk_ty hw h a _
theorem kids_one {ks : List T} {a : UInt8} (h : [a] = ks.map T.letter) : ∃ k, ks = [k] ∧ k.letter = a := by
  match ks, h with
  | [k], h => exact ⟨k, rfl, by simpa using h.symm⟩
theorem kids_two {ks : List T} {a b : UInt8} (h : [a, b] = ks.map T.letter) : ∃ k j, ks = [k, j] ∧ k.letter = a ∧ j.letter = b := by
  match ks, h with
  | [k, j], h => exact ⟨k, j, rfl, by simpa using h.symm⟩
theorem value_eq (E : Eyes) (op n : Int) (s : ByteArray) (ks : List T) : value E (.mk op n s ks) = val1 E op n s (values E ks) := by rw [value]
theorem value_op {E : Eyes} {op n : Int} {s : ByteArray} {ks : List T} (h : ¬ (op = 1 ∨ op = 2 ∨ op = 3 ∨ op = 4 ∨ op = 5)) : value E (.mk op n s ks) = thenV op ((values E ks).getD 0 none) (values E ks) := by
  rw [value_eq, val1, if_neg (by omega), if_neg (by omega), if_neg (by omega)]
theorem value_ty {E : Eyes} (hE : EyesOk E) (t : T) : ∀ (x : UInt8) (v : Int), t.letter = x → x ≠ 0 → x ≠ 99 → value E t = some v → Ty x v := by
  induction t using T.ind with | h op n s ks ih => ?_
  intro x v hx h0 h99 hv
  by_cases h22 : op = 22
  · subst h22
    obtain ⟨a, b, c, rfl, h1, h2, h3, -, -⟩ := (letter_22 (by rwa [hx])).1 rfl
    rw [hx] at h2 h3
    rw [value_op (by omega)] at hv
    unfold thenV at hv
    split at hv
    · cases hv
    · rename_i y hy
      have hy' : value E a = some y := hy
      rcases (ih a (by simp) 98 y h1 (by decide) (by decide) hy').1 rfl with rfl | rfl
      · exact ih c (by simp) x v h3 h0 h99 hv
      · exact ih b (by simp) x v h2 h0 h99 hv
  · obtain ⟨hw, hf⟩ := letter_inv hx h0 h22
    have hr := fields_range hf
    rcases op_cases (want_in hw) with rfl | rfl | rfl | rfl | rfl | rfl | rfl | rfl | rfl | rfl | rfl | rfl | rfl | rfl | rfl | rfl | rfl | rfl | rfl | rfl | rfl | rfl | rfl | rfl | rfl | rfl | rfl | rfl | rfl | rfl | rfl
    rotate_left 21
    · exact absurd rfl h22
    all_goals try (exfalso; apply h99; simp only [want_23, want_24, want_25, want_26, want_27, want_28, want_29, want_30, want_31, Option.some.injEq, Prod.mk.injEq] at hw; exact hw.2.symm)
    · obtain ⟨-, rfl⟩ := Prod.mk.inj (Option.some.inj (want_1.symm.trans hw)); rw [value_eq] at hv; obtain rfl := Option.some.inj (show some n = some v from hv); exact ty_num hr
    · obtain ⟨-, rfl⟩ := Prod.mk.inj (Option.some.inj (want_2.symm.trans hw)); rw [value_eq] at hv; obtain rfl := Option.some.inj (show some n = some v from hv); exact ty_bool (bool_of hf)
    · obtain ⟨-, rfl⟩ := Prod.mk.inj (Option.some.inj (want_3.symm.trans hw)); rw [value_eq] at hv; obtain rfl := Option.some.inj (show some n = some v from hv); exact ty_day (day_of (.inl rfl) hf)
    · obtain ⟨-, rfl⟩ := Prod.mk.inj (Option.some.inj (want_4.symm.trans hw)); rw [value_eq] at hv; exact ty_num (hE s n v hv)
    · obtain ⟨-, rfl⟩ := Prod.mk.inj (Option.some.inj (want_5.symm.trans hw)); rw [value_eq] at hv; obtain rfl := Option.some.inj (show some (Dt.plus E.day (-n)) = some v from hv); exact ty_day (plus_in _ _)
    all_goals
      rw [value_op (by omega)] at hv
      generalize hvs : values E ks = vs at hv
      unfold thenV at hv
      split at hv
      · cases hv
      rename_i y hy
    · obtain ⟨-, rfl⟩ := Prod.mk.inj (Option.some.inj (want_6.symm.trans hw)); obtain rfl := Option.some.inj (show some (Num.neg y) = some v from hv); exact ty_num (neg_in y)
    · exact second_ty hw (by omega) y hv
    · exact second_ty hw (by omega) y hv
    · exact second_ty hw (by omega) y hv
    · exact second_ty hw (by omega) y hv
    · exact second_ty hw (by omega) y hv
    · exact second_ty hw (by omega) y hv
    · exact second_ty hw (by omega) y hv
    · obtain ⟨hm, rfl⟩ := Prod.mk.inj (Option.some.inj (want_14.symm.trans hw))
      obtain ⟨k, rfl, hk⟩ := kids_one hm
      rw [← hvs] at hy
      have := (ih k (by simp) 98 y hk (by decide) (by decide) hy).1 rfl
      obtain rfl := Option.some.inj (show some (1 - y) = some v from hv)
      exact ty_bool (by omega)
    · obtain ⟨hm, rfl⟩ := Prod.mk.inj (Option.some.inj (want_15.symm.trans hw))
      obtain ⟨k, j, rfl, hk, hj⟩ := kids_two hm
      rw [← hvs] at hy hv
      by_cases h : y = 0
      · subst h
        obtain rfl := Option.some.inj (show some 0 = some v from hv)
        exact ty_bool (.inl rfl)
      · have h2 : after 15 y (values E [k, j]) = value E j := by unfold after; rw [if_neg (by omega), if_neg (by omega), if_neg (by omega), if_pos (.inl rfl)]; rfl
        rw [h2] at hv
        exact ih j (by simp) 98 v hj (by decide) (by decide) hv
    · obtain ⟨hm, rfl⟩ := Prod.mk.inj (Option.some.inj (want_16.symm.trans hw))
      obtain ⟨k, j, rfl, hk, hj⟩ := kids_two hm
      rw [← hvs] at hy hv
      by_cases h : y = 1
      · subst h
        obtain rfl := Option.some.inj (show some 1 = some v from hv)
        exact ty_bool (.inr rfl)
      · have h2 : after 16 y (values E [k, j]) = value E j := by unfold after; rw [if_neg (by omega), if_neg (by omega), if_neg (by omega), if_pos (.inr rfl)]; rfl
        rw [h2] at hv
        exact ih j (by simp) 98 v hj (by decide) (by decide) hv
    · exact second_ty hw (by omega) y hv
    · exact second_ty hw (by omega) y hv
    · exact second_ty hw (by omega) y hv
    · exact second_ty hw (by omega) y hv
    · exact second_ty hw (by omega) y hv
end Dn
end Go.Proofs.YtcpobnknmegkmaaGreatDoor
namespace Go.Proofs.YtcpobnknmegkmaaGreatDoor
open Go.RowKit
set_option linter.unusedVariables false
set_option linter.unusedSimpArgs false
namespace Dn
open Co
mutual
/-- A term's terms, by places. -/
def pre : T → List T
  | .mk o n s ks => .mk o n s ks :: pres ks
def pres : List T → List T
  | [] => []
  | k :: r => pre k ++ pres r
end
theorem pre_len (t : T) : (pre t).length = t.size := by
  induction t using T.ind with | h op n s ks ih => ?_
  have : ∀ l : List T, (∀ k ∈ l, (pre k).length = k.size) → (pres l).length = sizes l := by
    intro l
    induction l with
    | nil => intro _; rfl
    | cons a r ih2 =>
      intro h
      rw [pres, sizes, List.length_append, h a (List.mem_cons_self ..), ih2 fun k hk => h k (List.mem_cons_of_mem _ hk)]
  rw [pre, T.size, List.length_cons, this ks ih]
  omega
theorem pre_head (t : T) : (pre t)[0]? = some t := by cases t; rw [pre]; rfl
theorem pres_at {k : T} : ∀ {ks : List T} {i : Nat}, ks[i]? = some k → ∀ j, j < k.size → (pres ks)[sizes (ks.take i) + j]? = (pre k)[j]?
  | [], _, h, _, _ => by cases h
  | a :: r, 0, h, j, hj => by
    obtain rfl : a = k := by simpa using h
    rw [pres, List.take_zero, sizes, Nat.zero_add, List.getElem?_append_left (by rw [pre_len]; exact hj)]
  | a :: r, i + 1, h, j, hj => by
    have := pres_at (ks := r) (i := i) (by simpa using h) j hj
    rw [pres, List.take_succ_cons, sizes, List.getElem?_append_right (by rw [pre_len]; omega), pre_len, ← this]
    congr 1
    omega
theorem pre_at {k : T} {o n : Int} {s : ByteArray} {ks : List T} {i : Nat} (h : ks[i]? = some k) (j : Nat) (hj : j < k.size) : (pre (.mk o n s ks))[1 + sizes (ks.take i) + j]? = (pre k)[j]? := by
  rw [pre, ← pres_at h j hj, show 1 + sizes (ks.take i) + j = (sizes (ks.take i) + j) + 1 by omega, List.getElem?_cons_succ]
/-- A term stands in another one at a place. -/
def Sits (t0 : T) (a0 : Int) (t : T) (a : Int) : Prop := a0 ≤ a ∧ ∀ j, j < t.size → (pre t0)[(a - a0).toNat + j]? = (pre t)[j]?
theorem Sits.refl (t : T) (a : Int) : Sits t a t a := ⟨Int.le_refl _, fun j _ => by rw [Int.sub_self]; show (pre t)[0 + j]? = _; rw [Nat.zero_add]⟩
theorem take_sizes {ks : List T} {i : Nat} {k : T} (h : ks[i]? = some k) : sizes (ks.take i) + k.size ≤ sizes ks := by
  induction ks generalizing i with
  | nil => cases h
  | cons a r ih =>
    cases i with
    | zero => obtain rfl : a = k := by simpa using h
              rw [List.take_zero, sizes, sizes]; omega
    | succ i => have := ih (i := i) (by simpa using h)
                rw [List.take_succ_cons, sizes, sizes]; omega
theorem Sits.kid {t0 : T} {a0 a : Int} {o n : Int} {s : ByteArray} {ks : List T} {i : Nat} {k : T} (h : Sits t0 a0 (.mk o n s ks) a) (hk : ks[i]? = some k) : Sits t0 a0 k (a + 1 + (sizes (ks.take i) : Nat)) := by
  obtain ⟨h0, h1⟩ := h
  refine ⟨by omega, fun j hj => ?_⟩
  have hs := take_sizes hk
  have := h1 (1 + sizes (ks.take i) + j) (by rw [T.size]; omega)
  rw [pre_at hk j hj] at this
  rw [← this]
  congr 1
  omega
theorem Sits.at' {t0 t : T} {a0 a : Int} (h : Sits t0 a0 t a) : (pre t0)[(a - a0).toNat]? = some t := by
  have := h.2 0 (size_pos t)
  rw [Nat.add_zero, pre_head] at this
  exact this
def NumOk (f : Int) : Prop := -1000000000000000 ≤ f ∧ f ≤ 1000000000000000
theorem num_neg {f : Int} : NumOk (Num.neg f) := neg_in f
theorem num_mul (f x : Int) : NumOk (Num.mul f x) := mul_in f x
/-- A term that may wait. -/
def wop (op : Int) : Bool := op == 26 || op == 28 || op == 29 || op == 30 || op == 31
theorem map_none {ks : List T} (h : ([] : List UInt8) = ks.map T.letter) : ks = [] := by cases ks with | nil => rfl | cons a r => cases h
theorem map_one {ks : List T} {a : UInt8} (h : [a] = ks.map T.letter) : ∃ k, ks = [k] ∧ k.letter = a := by
  match ks, h with
  | [k], h => exact ⟨k, rfl, by simpa using h.symm⟩
theorem map_two {ks : List T} {a b : UInt8} (h : [a, b] = ks.map T.letter) : ∃ k j, ks = [k, j] ∧ k.letter = a ∧ j.letter = b := by
  match ks, h with
  | [k, j], h => exact ⟨k, j, rfl, by simpa using h.symm⟩
theorem map_three {ks : List T} {a b c : UInt8} (h : [a, b, c] = ks.map T.letter) : ∃ k j i, ks = [k, j, i] ∧ k.letter = a ∧ j.letter = b ∧ i.letter = c := by
  match ks, h with
  | [k, j, i], h => exact ⟨k, j, i, rfl, by simpa using h.symm⟩
/-- A contract's operations, and their kids. -/
theorem contract_of {op n : Int} {s : ByteArray} {ks : List T} (h : (T.mk op n s ks).letter = 99) :
    ((op = 23 ∧ ks = []) ∨ (op = 24 ∧ ks = [])) ∨ ((op = 25 ∨ op = 29) ∧ ∃ k, ks = [k] ∧ k.letter = 99) ∨ (op = 26 ∧ ∃ o k, ks = [o, k] ∧ o.letter = 110 ∧ k.letter = 99) ∨
    ((op = 27 ∨ op = 31) ∧ ∃ k j, ks = [k, j] ∧ k.letter = 99 ∧ j.letter = 99) ∨ (op = 28 ∧ ∃ o k j, ks = [o, k, j] ∧ o.letter = 98 ∧ k.letter = 99 ∧ j.letter = 99) ∨ (op = 30 ∧ ∃ o k, ks = [o, k] ∧ o.letter = 98 ∧ k.letter = 99) := by
  have h22 : op ≠ 22 := by
    rintro rfl
    obtain ⟨_, _, _, _, _, _, _, h4, _⟩ := (letter_22 (x := 99) (by decide)).1 h
    exact h4 rfl
  obtain ⟨hw, -⟩ := letter_inv h (by decide) h22
  rcases op_cases (want_in hw) with rfl | rfl | rfl | rfl | rfl | rfl | rfl | rfl | rfl | rfl | rfl | rfl | rfl | rfl | rfl | rfl | rfl | rfl | rfl | rfl | rfl | rfl | rfl | rfl | rfl | rfl | rfl | rfl | rfl | rfl | rfl
  all_goals first | exact absurd rfl h22 | skip
  all_goals simp only [want_1, want_2, want_3, want_4, want_5, want_6, want_7, want_8, want_9, want_10, want_11, want_12, want_13, want_14, want_15, want_16, want_17, want_18, want_19, want_20, want_21, want_22, want_23, want_24, want_25, want_26, want_27, want_28, want_29, want_30, want_31, Option.some.injEq, Prod.mk.injEq] at hw
  all_goals try exact absurd hw.2 (by decide)
  · exact .inl (.inl ⟨rfl, map_none hw.1⟩)
  · exact .inl (.inr ⟨rfl, map_none hw.1⟩)
  · exact .inr (.inl ⟨.inl rfl, map_one hw.1⟩)
  · exact .inr (.inr (.inl ⟨rfl, map_two hw.1⟩))
  · exact .inr (.inr (.inr (.inl ⟨.inl rfl, map_two hw.1⟩)))
  · exact .inr (.inr (.inr (.inr (.inl ⟨rfl, map_three hw.1⟩))))
  · exact .inr (.inl ⟨.inr rfl, map_one hw.1⟩)
  · exact .inr (.inr (.inr (.inr (.inr ⟨rfl, map_two hw.1⟩))))
  · exact .inr (.inr (.inr (.inl ⟨.inr rfl, map_two hw.1⟩)))
/-- What comes of acquiring a contract. -/
def Acts (E : Eyes) (op n : Int) (ks : List T) (a f : Int) (r : R) : Prop := r.1 = [] ∨ (r = waitR a f ∧ wop op = true ∧ (op = 31 → E.day ≤ n)) ∨
  (∃ (i : Nat) (k : T) (g : Int), ks[i]? = some k ∧ k.letter = 99 ∧ NumOk g ∧ r = acq E k (a + 1 + (sizes (ks.take i) : Nat)) g) ∨
  (∃ k j : T, ks = [k, j] ∧ k.letter = 99 ∧ j.letter = 99 ∧ r = both (acq E k (a + 1) f) (acq E j (a + 1 + (k.size : Nat)) f))
theorem acts_kid {E : Eyes} {op n : Int} {ks : List T} {a f g : Int} {i : Nat} {k : T} (hk : ks[i]? = some k) (hx : k.letter = 99) (hg : NumOk g) : Acts E op n ks a f (kidA E ks i a g) :=
  .inr (.inr (.inl ⟨i, k, g, hk, hx, hg, kidA_at hk a g⟩))
theorem acts {E : Eyes} (hE : EyesOk E) {op n : Int} {s : ByteArray} {ks : List T} (hx : (T.mk op n s ks).letter = 99) {f : Int} (hf : NumOk f) (a : Int) : Acts E op n ks a f (acq E (.mk op n s ks) a f) := by
  rcases contract_of hx with (⟨rfl, rfl⟩ | ⟨rfl, rfl⟩) | ⟨h, k, rfl, hk⟩ | ⟨rfl, o, k, rfl, ho, hk⟩ | ⟨h, k, j, rfl, hk, hj⟩ | ⟨rfl, o, k, j, rfl, ho, hk, hj⟩ | ⟨rfl, o, k, rfl, ho, hk⟩
  · rw [acq_23]; exact .inl rfl
  · rw [acq_24]; exact .inl rfl
  · rcases h with rfl | rfl
    · rw [acq_25]; exact acts_kid (i := 0) rfl hk num_neg
    · rw [acq_29]
      split
      · exact acts_kid (i := 0) rfl hk hf
      · exact .inr (.inl ⟨rfl, rfl, fun e => absurd e (by decide)⟩)
  · rw [acq_26]
    split
    · exact .inr (.inl ⟨rfl, rfl, fun e => absurd e (by decide)⟩)
    · exact acts_kid (i := 1) rfl hk (num_mul _ _)
  · rcases h with rfl | rfl
    · rw [acq_27, kidA_at (i := 0) rfl, kidA_at (i := 1) rfl]
      refine .inr (.inr (.inr ⟨k, j, rfl, hk, hj, ?_⟩))
      simp [sizes]
    · rw [acq_31]
      split
      · exact acts_kid (i := 1) rfl hj hf
      · exact .inr (.inl ⟨rfl, rfl, fun _ => by omega⟩)
  · rw [acq_28]
    split
    · exact .inr (.inl ⟨rfl, rfl, fun e => absurd e (by decide)⟩)
    · rename_i x hv
      rcases (value_ty hE o 98 x ho (by decide) (by decide) hv).1 rfl with rfl | rfl
      · exact acts_kid (i := 2) rfl hj hf
      · exact acts_kid (i := 1) rfl hk hf
  · rw [acq_30]
    split
    · exact .inl rfl
    · split
      · exact acts_kid (i := 1) rfl hk hf
      · exact .inr (.inl ⟨rfl, rfl, fun e => absurd e (by decide)⟩)
/-- What waits: in order, apart, each at a term that may wait; P tells more of each. -/
def Chain (P : T → Int → Int → Prop) (t0 : T) (a0 : Int) : Int → List (Int × Int) → Int → Prop
  | lo, [], hi => lo ≤ hi
  | lo, x :: r, hi => ∃ u : T, lo ≤ x.1 ∧ Sits t0 a0 u x.1 ∧ u.letter = 99 ∧ wop u.op = true ∧ NumOk x.2 ∧ P u x.1 x.2 ∧ Chain P t0 a0 (x.1 + (u.size : Nat)) r hi
section
variable {P : T → Int → Int → Prop} {t0 : T} {a0 : Int}
theorem Chain.low {lo lo' : Int} {l : List (Int × Int)} {hi : Int} (h : Chain P t0 a0 lo l hi) (hl : lo' ≤ lo) : Chain P t0 a0 lo' l hi := by
  cases l with
  | nil => exact Int.le_trans hl h
  | cons x r => obtain ⟨u, h1, h2⟩ := h; exact ⟨u, Int.le_trans hl h1, h2⟩
theorem Chain.high {hi hi' : Int} (hh : hi ≤ hi') : ∀ {l : List (Int × Int)} {lo : Int}, Chain P t0 a0 lo l hi → Chain P t0 a0 lo l hi'
  | [], _, h => Int.le_trans h hh
  | x :: r, _, h => by
    obtain ⟨u, h1, h2, h3, h4, h5, h6, h7⟩ := h
    exact ⟨u, h1, h2, h3, h4, h5, h6, Chain.high hh h7⟩
theorem Chain.more {l' : List (Int × Int)} {m hi : Int} (h' : Chain P t0 a0 m l' hi) : ∀ {l : List (Int × Int)} {lo : Int}, Chain P t0 a0 lo l m → Chain P t0 a0 lo (l ++ l') hi
  | [], _, h => h'.low h
  | x :: r, _, h => by
    obtain ⟨u, h1, h2, h3, h4, h5, h6, h7⟩ := h
    exact ⟨u, h1, h2, h3, h4, h5, h6, Chain.more h' h7⟩
theorem Chain.ends : ∀ {l : List (Int × Int)} {lo hi : Int}, Chain P t0 a0 lo l hi → lo ≤ hi
  | [], _, _, h => h
  | x :: r, _, _, h => by
    obtain ⟨u, h1, h2, h3, h4, h5, h6, h7⟩ := h
    have := Chain.ends h7
    omega
end
/-- A term waits there. -/
def Settled (E : Eyes) (u : T) (p g : Int) : Prop := acq E u p g = waitR p g ∧ (u.op = 31 → E.day ≤ u.n)
theorem acq_chain {E : Eyes} (hE : EyesOk E) {t0 : T} {a0 : Int} (t : T) : ∀ (a f : Int), t.letter = 99 → NumOk f → Sits t0 a0 t a → Chain (Settled E) t0 a0 a (acq E t a f).1 (a + (t.size : Nat)) := by
  induction t using T.ind with | h op n s ks ih => ?_
  intro a f hx hf hs
  have hz : (T.mk op n s ks).size = 1 + sizes ks := by rw [T.size]
  rcases acts hE hx hf a with h | ⟨h, hw, hp⟩ | ⟨i, k, g, hk, hkx, hg, h⟩ | ⟨k, j, rfl, hk, hj, h⟩
  · rw [h]; show a ≤ _; omega
  · rw [h]
    exact ⟨.mk op n s ks, Int.le_refl _, hs, hx, hw, hf, ⟨h, hp⟩, Int.le_refl _⟩
  · rw [h]
    have hz2 := take_sizes hk
    exact Chain.high (by omega) ((ih k (List.mem_of_getElem? hk) _ g hkx hg (hs.kid hk)).low (by omega))
  · rw [h]
    have s1 := hs.kid (i := 0) (k := k) rfl
    have s2 := hs.kid (i := 1) (k := j) rfl
    simp only [List.take_zero, List.take_succ_cons, sizes, Nat.add_zero, Int.natCast_zero, Int.add_zero] at s1 s2
    have c1 := ih k (by simp) (a + 1) f hk hf s1
    have c2 := ih j (by simp) (a + 1 + (k.size : Nat)) f hj hf s2
    simp only [sizes, Nat.add_zero] at hz
    exact Chain.more (Chain.high (by omega) c2) (c1.low (by omega))
/-- What was picked: a label, which one. -/
def stepOne (E : Eyes) (lab : ByteArray) (wh : Int) (u : T) (p g : Int) : R := if u.op = 31 ∧ u.s = lab ∧ E.day ≤ u.n then kidA E u.ks (wh - 1).toNat p g else acq E u p g
def stepAll (E : Eyes) (lab : ByteArray) (wh : Int) (L : List T) : List (Int × Int) → R
  | [] => nothing
  | x :: r => both (stepOne E lab wh (L.getD x.1.toNat default) x.1 x.2) (stepAll E lab wh L r)
theorem sits_zero {t u : T} {p : Int} (h : Sits t 0 u p) : (pre t).getD p.toNat default = u := by
  have := h.at'
  rw [Int.sub_zero] at this
  rw [List.getD_eq_getElem?_getD, this]
  rfl
theorem pick_name {n : Int} {s : ByteArray} {ks : List T} (h : (T.mk 31 n s ks).letter = 99) : Led.isName s = true := by
  obtain ⟨-, hf⟩ := letter_inv h (by decide) (by decide)
  simp [fields, Gen.within] at hf
  exact hf.1
theorem step_chain {E : Eyes} (hE : EyesOk E) {P : T → Int → Int → Prop} {t : T} {lab : ByteArray} {wh : Int} (hp : (wh = 1 ∨ wh = 2) ∨ (lab = ⟨#[]⟩ ∧ wh = 0)) (hn : Led.isName ⟨#[]⟩ = false) {hi : Int} :
    ∀ {l : List (Int × Int)} {lo : Int}, Chain P t 0 lo l hi → Chain (Settled E) t 0 lo (stepAll E lab wh (pre t) l).1 hi
  | [], _, h => h
  | x :: r, lo, h => by
    obtain ⟨u, h1, h2, h3, h4, h5, h6, h7⟩ := h
    have c2 := step_chain hE hp hn h7
    refine Chain.more c2 ?_
    rw [sits_zero h2]
    unfold stepOne
    split
    · rename_i hc
      obtain ⟨op, n, s, ks⟩ := u
      simp only [T.op, T.s, T.n, T.ks] at hc ⊢
      obtain ⟨rfl, rfl, hd⟩ := hc
      have hpk : wh = 1 ∨ wh = 2 := by
        rcases hp with h | ⟨h, -⟩
        · exact h
        · have := pick_name h3
          rw [h, hn] at this
          cases this
      rcases contract_of h3 with (⟨e, -⟩ | ⟨e, -⟩) | ⟨e, -⟩ | ⟨e, -⟩ | ⟨-, k, j, rfl, hk, hj⟩ | ⟨e, -⟩ | ⟨e, -⟩
      · exact absurd e (by decide)
      · exact absurd e (by decide)
      · exact absurd e (by decide)
      · exact absurd e (by decide)
      · have hz : (T.mk 31 n s [k, j]).size = 1 + (k.size + (j.size + 0)) := by simp [T.size, sizes]
        rcases hpk with rfl | rfl
        · rw [show ((1 : Int) - 1).toNat = 0 from rfl, kidA_at (i := 0) (k := k) rfl]
          have := acq_chain hE k _ x.2 hk h5 (h2.kid (i := 0) (k := k) rfl)
          simp only [List.take_zero, sizes] at this ⊢
          exact Chain.high (by omega) (this.low (by omega))
        · rw [show ((2 : Int) - 1).toNat = 1 from rfl, kidA_at (i := 1) (k := j) rfl]
          have := acq_chain hE j _ x.2 hj h5 (h2.kid (i := 1) (k := j) rfl)
          simp only [List.take_zero, List.take_succ_cons, sizes] at this ⊢
          exact Chain.high (by omega) (this.low (by omega))
      · exact absurd e (by decide)
      · exact absurd e (by decide)
    · exact (acq_chain hE u x.1 x.2 h3 h5 h2).low h1
theorem step_again {E : Eyes} (hn : Led.isName ⟨#[]⟩ = false) {t : T} {hi : Int} : ∀ {l : List (Int × Int)} {lo : Int}, Chain (Settled E) t 0 lo l hi → stepAll E ⟨#[]⟩ 0 (pre t) l = (l, [])
  | [], _, _ => rfl
  | x :: r, lo, h => by
    obtain ⟨u, h1, h2, h3, h4, h5, ⟨h6, -⟩, h7⟩ := h
    rw [stepAll, step_again hn h7, sits_zero h2]
    unfold stepOne
    rw [if_neg, h6]
    · rfl
    · rintro ⟨e, e2, -⟩
      obtain ⟨op, n, s, ks⟩ := u
      simp only [T.op, T.s] at e e2
      subst e
      have := pick_name h3
      rw [e2, hn] at this
      cases this
/-- What waits is right. -/
structure LiveOk (L : List T) (l : List (Int × Int)) (i : Nat) (x : Int × Int) : Prop where
  at' : 0 ≤ x.1 ∧ x.1 < L.length
  up : ∀ j y, i = j + 1 → l[j]? = some y → y.1 < x.1
  num : x.2 = Num.clamp x.2
  waits : wop (L.getD x.1.toNat default).op = true
def LivesOk (L : List T) (l : List (Int × Int)) : Prop := ∀ (i : Nat) (x : Int × Int), l[i]? = some x → LiveOk L l i x
theorem chain_at {P : T → Int → Int → Prop} {t : T} {hi : Int} : ∀ {l : List (Int × Int)} {lo : Int}, Chain P t 0 lo l hi → ∀ (i : Nat) (x : Int × Int), l[i]? = some x → ∃ u, lo ≤ x.1 ∧ Sits t 0 u x.1 ∧ wop u.op = true ∧ NumOk x.2 ∧ P u x.1 x.2
  | [], _, _, i, x, h => by cases h
  | y :: r, lo, h, i, x, hx => by
    obtain ⟨u, h1, h2, h3, h4, h5, h6, h7⟩ := h
    cases i with
    | zero => obtain rfl : y = x := by simpa using hx
              exact ⟨u, h1, h2, h4, h5, h6⟩
    | succ i =>
      obtain ⟨v, k1, k2⟩ := chain_at h7 i x (by simpa using hx)
      exact ⟨v, by omega, k2⟩
theorem chain_up {P : T → Int → Int → Prop} {t : T} {hi : Int} : ∀ {l : List (Int × Int)} {lo : Int}, Chain P t 0 lo l hi → ∀ (j : Nat) (x y : Int × Int), l[j]? = some y → l[j + 1]? = some x → y.1 < x.1
  | [], _, _, i, x, y, h, _ => by cases h
  | z :: r, lo, h, j, x, y, hy, hx => by
    obtain ⟨u, h1, h2, h3, h4, h5, h6, h7⟩ := h
    cases j with
    | zero =>
      obtain rfl : z = y := by simpa using hy
      obtain ⟨v, k1, -⟩ := chain_at h7 0 x (by simpa using hx)
      have := size_pos u
      omega
    | succ j => exact chain_up h7 j x y (by simpa using hy) (by simpa using hx)
theorem chain_ok {P : T → Int → Int → Prop} {t : T} {hi : Int} {l : List (Int × Int)} (h : Chain P t 0 0 l hi) : LivesOk (pre t) l := by
  intro i x hx
  obtain ⟨u, h1, h2, h3, h4, -⟩ := chain_at h i x hx
  refine ⟨⟨h1, ?_⟩, fun j y e hy => ?_, (Num.clamp_in h4.1 h4.2).symm, by rw [sits_zero h2]; exact h3⟩
  · have := h2.at'
    rw [Int.sub_zero] at this
    have := (List.getElem?_eq_some_iff.1 this).1
    omega
  · subst e
    exact chain_up h j x y hy hx
end Dn
end Go.Proofs.YtcpobnknmegkmaaGreatDoor
namespace Go.Proofs.YtcpobnknmegkmaaGreatDoor
open Go.RowKit
set_option linter.unusedVariables false
set_option linter.unusedSimpArgs false
namespace Dn
open Co
/-- All that a term asks is told. -/
def Told (E : Eyes) (t : T) : Prop := ∀ u ∈ pre t, u.op = 4 → ∃ v, E.feed u.s u.n = some v
theorem mem_pres {u : T} : ∀ {ks : List T}, u ∈ pres ks ↔ ∃ k ∈ ks, u ∈ pre k
  | [] => by simp [pres]
  | a :: r => by rw [pres, List.mem_append, mem_pres (ks := r)]; simp
theorem Told.kid {E : Eyes} {op n : Int} {s : ByteArray} {ks : List T} (h : Told E (.mk op n s ks)) {k : T} (hk : k ∈ ks) : Told E k := by
  intro u hu
  exact h u (by rw [pre, List.mem_cons]; exact .inr (mem_pres.2 ⟨k, hk, hu⟩))
theorem hor_mk {op n : Int} {s : ByteArray} {ks : List T} {H : Int} (h : (T.mk op n s ks).hor ≤ H) : nb op n ≤ H ∧ ∀ k ∈ ks, k.hor ≤ H := by
  rw [T.hor, hors_le] at h
  exact h
theorem pre_hor {H : Int} (t : T) : t.hor ≤ H → ∀ u ∈ pre t, u.hor ≤ H := by
  induction t using T.ind with | h op n s ks ih => ?_
  intro h u hu
  rw [pre, List.mem_cons] at hu
  rcases hu with rfl | hu
  · exact h
  · obtain ⟨k, hk, hu⟩ := mem_pres.1 hu
    exact ih k hk ((hor_mk h).2 k hk) u hu
theorem pre_told {E : Eyes} (t : T) : Told E t → ∀ u ∈ pre t, Told E u := by
  induction t using T.ind with | h op n s ks ih => ?_
  intro h u hu
  rw [pre, List.mem_cons] at hu
  rcases hu with rfl | hu
  · exact h
  · obtain ⟨k, hk, hu⟩ := mem_pres.1 hu
    exact ih k hk (h.kid hk) u hu
theorem second_some {op a z : Int} {vs : List (Option Int)} (h : 7 ≤ op ∧ op ≤ 21 ∧ op ≠ 14 ∧ op ≠ 15 ∧ op ≠ 16) (hz : vs.getD 1 none = some z) : ∃ v, after op a vs = some v := by
  unfold after
  rw [if_neg (by omega), if_neg (by omega), if_neg (by omega), if_neg (by omega), if_neg (by omega), hz]
  exact ⟨_, rfl⟩
/-- Each observable is known. -/
theorem known {E : Eyes} (hE : EyesOk E) (t : T) : Told E t → ∀ x : UInt8, t.letter = x → x ≠ 0 → x ≠ 99 → ∃ v, value E t = some v := by
  induction t using T.ind with | h op n s ks ih => ?_
  intro ht x hx h0 h99
  by_cases h22 : op = 22
  · subst h22
    obtain ⟨a, b, c, rfl, h1, h2, h3, -, -⟩ := (letter_22 (by rwa [hx])).1 rfl
    rw [hx] at h2 h3
    rw [value_op (by omega)]
    obtain ⟨y, hy⟩ := ih a (by simp) (ht.kid (by simp)) 98 h1 (by decide) (by decide)
    have h0' : (values E [a, b, c]).getD 0 none = some y := hy
    rw [h0']
    rcases (value_ty hE a 98 y h1 (by decide) (by decide) hy).1 rfl with rfl | rfl
    · obtain ⟨z, hz⟩ := ih c (by simp) (ht.kid (by simp)) x h3 h0 h99
      exact ⟨z, hz⟩
    · obtain ⟨z, hz⟩ := ih b (by simp) (ht.kid (by simp)) x h2 h0 h99
      exact ⟨z, hz⟩
  · obtain ⟨hw, hf⟩ := letter_inv hx h0 h22
    have one : ∀ a : UInt8, [a] = ks.map T.letter → a ≠ 0 → a ≠ 99 → ∃ y, (values E ks).getD 0 none = some y := by
      intro a hm ha0 ha9
      obtain ⟨k, rfl, hk⟩ := kids_one hm
      obtain ⟨y, hy⟩ := ih k (by simp) (ht.kid (by simp)) a hk ha0 ha9
      exact ⟨y, hy⟩
    have two : ∀ a b : UInt8, [a, b] = ks.map T.letter → (a ≠ 0 ∧ a ≠ 99) → (b ≠ 0 ∧ b ≠ 99) → ∃ y z, (values E ks).getD 0 none = some y ∧ (values E ks).getD 1 none = some z := by
      intro a b hm ha hb
      obtain ⟨k, j, rfl, hk, hj⟩ := kids_two hm
      obtain ⟨y, hy⟩ := ih k (by simp) (ht.kid (by simp)) a hk ha.1 ha.2
      obtain ⟨z, hz⟩ := ih j (by simp) (ht.kid (by simp)) b hj hb.1 hb.2
      exact ⟨y, z, hy, hz⟩
    rcases op_cases (want_in hw) with rfl | rfl | rfl | rfl | rfl | rfl | rfl | rfl | rfl | rfl | rfl | rfl | rfl | rfl | rfl | rfl | rfl | rfl | rfl | rfl | rfl | rfl | rfl | rfl | rfl | rfl | rfl | rfl | rfl | rfl | rfl
    rotate_left 21
    · exact absurd rfl h22
    all_goals try (exfalso; apply h99; simp only [want_23, want_24, want_25, want_26, want_27, want_28, want_29, want_30, want_31, Option.some.injEq, Prod.mk.injEq] at hw; exact hw.2.symm)
    · rw [value_eq]; exact ⟨n, rfl⟩
    · rw [value_eq]; exact ⟨n, rfl⟩
    · rw [value_eq]; exact ⟨n, rfl⟩
    · rw [value_eq]
      obtain ⟨v, hv⟩ := ht (.mk 4 n s ks) (by rw [pre]; exact List.mem_cons_self ..) rfl
      exact ⟨v, hv⟩
    · rw [value_eq]; exact ⟨_, rfl⟩
    all_goals
      rw [value_op (by omega)]
      simp only [want_6, want_7, want_8, want_9, want_10, want_11, want_12, want_13, want_14, want_15, want_16, want_17, want_18, want_19, want_20, want_21, Option.some.injEq, Prod.mk.injEq] at hw
      obtain ⟨hm, -⟩ := hw
    all_goals first
      | (obtain ⟨y, hy⟩ := one _ hm (by decide) (by decide); rw [hy]; exact ⟨_, rfl⟩)
      | (obtain ⟨y, z, hy, hz⟩ := two _ _ hm (by decide) (by decide); rw [hy]; exact second_some (by omega) hz)
      | skip
    · obtain ⟨y, z, hy, hz⟩ := two _ _ hm (by decide) (by decide)
      rw [hy]
      show ∃ v, after 15 y (values E ks) = some v
      unfold after
      by_cases h : y = 0
      · rw [if_neg (by omega), if_neg (by omega), if_pos (.inl ⟨rfl, h⟩)]; exact ⟨_, rfl⟩
      · rw [if_neg (by omega), if_neg (by omega), if_neg (by omega), if_pos (.inl rfl)]; exact ⟨z, hz⟩
    · obtain ⟨y, z, hy, hz⟩ := two _ _ hm (by decide) (by decide)
      rw [hy]
      show ∃ v, after 16 y (values E ks) = some v
      unfold after
      by_cases h : y = 1
      · rw [if_neg (by omega), if_neg (by omega), if_pos (.inr ⟨rfl, h⟩)]; exact ⟨_, rfl⟩
      · rw [if_neg (by omega), if_neg (by omega), if_neg (by omega), if_pos (.inr rfl)]; exact ⟨z, hz⟩
/-- Nothing waits. -/
theorem acq_ends {E : Eyes} (hE : EyesOk E) (t : T) : t.letter = 99 → Told E t → t.hor < E.day → ∀ a f, (acq E t a f).1 = [] := by
  induction t using T.ind with | h op n s ks ih => ?_
  intro hx ht hh a f
  have hk := (hor_mk (H := E.day - 1) (show (T.mk op n s ks).hor ≤ _ by omega)).2
  have hn := (hor_mk (H := E.day - 1) (show (T.mk op n s ks).hor ≤ _ by omega)).1
  have kid : ∀ {i : Nat} {k : T}, ks[i]? = some k → k.letter = 99 → ∀ g, (kidA E ks i a g).1 = [] := by
    intro i k h hl g
    have hm := List.mem_of_getElem? h
    rw [kidA_at h]
    exact ih k hm hl (ht.kid hm) (by have := hk k hm; omega) _ _
  rcases contract_of hx with (⟨rfl, rfl⟩ | ⟨rfl, rfl⟩) | ⟨h, k, rfl, hk1⟩ | ⟨rfl, o, k, rfl, ho, hk1⟩ | ⟨h, k, j, rfl, hk1, hj⟩ | ⟨rfl, o, k, j, rfl, ho, hk1, hj⟩ | ⟨rfl, o, k, rfl, ho, hk1⟩
  · rw [acq_23]; rfl
  · rw [acq_24]
  · rcases h with rfl | rfl
    · rw [acq_25]; exact kid (i := 0) rfl hk1 _
    · have : n ≤ E.day := by unfold nb at hn; rw [if_pos (by omega)] at hn; omega
      rw [acq_29, if_pos this]; exact kid (i := 0) rfl hk1 _
  · rw [acq_26]
    obtain ⟨v, hv⟩ := known hE o (ht.kid (by simp)) 110 ho (by decide) (by decide)
    have h0 : (values E [o, k]).getD 0 none = some v := hv
    rw [h0]
    exact kid (i := 1) rfl hk1 _
  · rcases h with rfl | rfl
    · rw [acq_27]
      unfold both
      rw [kid (i := 0) rfl hk1, kid (i := 1) rfl hj]
      rfl
    · have : n < E.day := by unfold nb at hn; rw [if_pos (by omega)] at hn; omega
      rw [acq_31, if_pos this]; exact kid (i := 1) rfl hj _
  · rw [acq_28]
    obtain ⟨v, hv⟩ := known hE o (ht.kid (by simp)) 98 ho (by decide) (by decide)
    have h0 : (values E [o, k, j]).getD 0 none = some v := hv
    rw [h0]
    rcases (value_ty hE o 98 v ho (by decide) (by decide) hv).1 rfl with rfl | rfl
    · exact kid (i := 2) rfl hj _
    · exact kid (i := 1) rfl hk1 _
  · have : n < E.day := by unfold nb at hn; rw [if_pos (by omega)] at hn; omega
    rw [acq_30, if_pos this]; rfl
theorem step_ends {E : Eyes} (hE : EyesOk E) (hn : Led.isName ⟨#[]⟩ = false) {P : T → Int → Int → Prop} {t : T} (ht : Told E t) (hh : t.hor < E.day) {hi : Int} : ∀ {l : List (Int × Int)} {lo : Int}, Chain P t 0 lo l hi → (stepAll E ⟨#[]⟩ 0 (pre t) l).1 = []
  | [], _, _ => rfl
  | x :: r, lo, h => by
    obtain ⟨u, h1, h2, h3, h4, h5, h6, h7⟩ := h
    have hm : u ∈ pre t := List.mem_of_getElem? h2.at'
    rw [stepAll, sits_zero h2]
    unfold both stepOne
    rw [step_ends hE hn ht hh h7, if_neg]
    · simp only [List.append_nil]
      have := pre_hor t (H := E.day - 1) (by omega) u hm
      exact acq_ends hE u h3 (pre_told t ht u hm) (by omega) _ _
    · rintro ⟨e, e2, -⟩
      obtain ⟨op, n, s, ks⟩ := u
      simp only [T.op, T.s] at e e2
      subst e
      have := pick_name h3
      rw [e2, hn] at this
      cases this
end Dn
end Go.Proofs.YtcpobnknmegkmaaGreatDoor
namespace Go.Proofs.YtcpobnknmegkmaaGreatDoor
open Go.RowKit
set_option linter.unusedVariables false
set_option linter.unusedSimpArgs false
namespace Dn
open Co
/-- One more name, rising, each once. -/
def ins (s : ByteArray) : List ByteArray → List ByteArray
  | [] => [s]
  | x :: r => if Fd.lt x s = true then x :: ins s r else if x = s then x :: r else s :: x :: r
mutual
def names : T → List ByteArray → List ByteArray
  | .mk op _ s ks, l => namess ks (if op = 4 then ins s l else l)
def namess : List T → List ByteArray → List ByteArray
  | [], l => l
  | k :: r, l => namess r (names k l)
end
def Up (l : List ByteArray) : Prop := l.Pairwise fun a b => Fd.lt a b = true
theorem lt_tri {a b : ByteArray} (h : Fd.lt a b = false) (hn : a ≠ b) : Fd.lt b a = true := by
  unfold Fd.lt at *
  rw [bytesLess_eq] at *
  rw [decide_eq_false_iff_not] at h
  rw [decide_eq_true_eq]
  rcases List.le_iff_lt_or_eq.1 (List.not_lt.1 h) with h1 | h1
  · exact h1
  · exfalso
    apply hn
    rw [ByteArray.toList_eq, ByteArray.toList_eq] at h1
    cases a
    cases b
    simp only [ByteArray.mk.injEq]
    exact (Array.toList_inj.1 h1).symm
theorem mem_ins {s x : ByteArray} : ∀ {l : List ByteArray}, x ∈ ins s l ↔ x = s ∨ x ∈ l
  | [] => by simp [ins]
  | y :: r => by
    rw [ins]
    split
    · rw [List.mem_cons, mem_ins, List.mem_cons]
      constructor
      · rintro (h | h | h)
        · exact .inr (.inl h)
        · exact .inl h
        · exact .inr (.inr h)
      · rintro (h | h | h)
        · exact .inr (.inl h)
        · exact .inl h
        · exact .inr (.inr h)
    · split
      · rename_i h
        subst h
        rw [List.mem_cons]
        constructor
        · rintro (h | h)
          · exact .inl h
          · exact .inr (.inr h)
        · rintro (h | h | h)
          · exact .inl h
          · exact .inl h
          · exact .inr h
      · rw [List.mem_cons, List.mem_cons]
theorem ins_up {s : ByteArray} : ∀ {l : List ByteArray}, Up l → Up (ins s l)
  | [], _ => by unfold Up; rw [ins]; exact List.pairwise_singleton _ _
  | y :: r, h => by
    obtain ⟨h1, h2⟩ := List.pairwise_cons.1 h
    rw [ins]
    split
    · rename_i hlt
      refine List.pairwise_cons.2 ⟨fun z hz => ?_, ins_up h2⟩
      rcases mem_ins.1 hz with rfl | hz
      · exact hlt
      · exact h1 z hz
    · rename_i hlt
      split
      · exact h
      · rename_i hne
        have hsy := lt_tri (by simpa using hlt) hne
        refine List.pairwise_cons.2 ⟨fun z hz => ?_, h⟩
        rcases List.mem_cons.1 hz with rfl | hz
        · exact hsy
        · exact Fd.lt_trans hsy (h1 z hz)
theorem namess_up {ks : List T} (h : ∀ k ∈ ks, ∀ l, Up l → Up (names k l)) : ∀ l, Up l → Up (namess ks l) := by
  induction ks with
  | nil => intro l hl; exact hl
  | cons a r ih => intro l hl; rw [namess]; exact ih (fun k hk => h k (List.mem_cons_of_mem _ hk)) _ (h a (List.mem_cons_self ..) l hl)
theorem names_up (t : T) : ∀ l, Up l → Up (names t l) := by
  induction t using T.ind with | h op n s ks ih => ?_
  intro l hl
  rw [names]
  refine namess_up ih _ ?_
  split
  · exact ins_up hl
  · exact hl
theorem namess_mem {P : T → ByteArray → Prop} {ks : List T} (h : ∀ k ∈ ks, ∀ l x, x ∈ names k l ↔ x ∈ l ∨ ∃ u ∈ pre k, u.op = 4 ∧ u.s = x) : ∀ l x, x ∈ namess ks l ↔ x ∈ l ∨ ∃ k ∈ ks, ∃ u ∈ pre k, u.op = 4 ∧ u.s = x := by
  induction ks with
  | nil => intro l x; simp [namess]
  | cons a r ih =>
    intro l x
    rw [namess, ih (fun k hk => h k (List.mem_cons_of_mem _ hk)), h a (List.mem_cons_self ..)]
    simp only [List.mem_cons, exists_eq_or_imp, or_assoc]
theorem names_mem (t : T) : ∀ l x, x ∈ names t l ↔ x ∈ l ∨ ∃ u ∈ pre t, u.op = 4 ∧ u.s = x := by
  induction t using T.ind with | h op n s ks ih => ?_
  intro l x
  rw [names, namess_mem (P := fun _ _ => True) ih, pre]
  simp only [List.mem_cons, exists_eq_or_imp, T.op, T.s, mem_pres]
  by_cases h4 : op = 4
  · rw [if_pos h4, mem_ins]
    constructor
    · rintro ((h | h) | ⟨k, hk, u, hu, h1, h2⟩)
      · exact .inr (.inl ⟨h4, h.symm⟩)
      · exact .inl h
      · exact .inr (.inr ⟨u, ⟨k, hk, hu⟩, h1, h2⟩)
    · rintro (h | ⟨-, h⟩ | ⟨u, ⟨k, hk, hu⟩, h1, h2⟩)
      · exact .inl (.inr h)
      · exact .inl (.inl h.symm)
      · exact .inr ⟨k, hk, u, hu, h1, h2⟩
  · rw [if_neg h4]
    constructor
    · rintro (h | ⟨k, hk, u, hu, h1, h2⟩)
      · exact .inl h
      · exact .inr (.inr ⟨u, ⟨k, hk, hu⟩, h1, h2⟩)
    · rintro (h | ⟨h, -⟩ | ⟨u, ⟨k, hk, hu⟩, h1, h2⟩)
      · exact .inl h
      · exact absurd h h4
      · exact .inr ⟨k, hk, u, hu, h1, h2⟩
/-- The feeds that the law makes of names. -/
def endF (N : List ByteArray) : List Fd.Feed := N.mapIdx fun i s => (s, [(0, (i : Int) * 500000)])
theorem end_len (N : List ByteArray) : (endF N).length = N.length := by unfold endF; simp
theorem end_at {N : List ByteArray} {i : Nat} {f : Fd.Feed} (h : (endF N)[i]? = some f) : ∃ s, N[i]? = some s ∧ f = (s, [(0, (i : Int) * 500000)]) := by
  unfold endF at h
  rw [List.getElem?_mapIdx] at h
  obtain ⟨s, h1, h2⟩ := Option.map_eq_some_iff.1 h
  exact ⟨s, h1, h2.symm⟩
theorem end_at' {N : List ByteArray} {i : Nat} {s : ByteArray} (h : N[i]? = some s) : (endF N)[i]? = some (s, [(0, (i : Int) * 500000)]) := by
  unfold endF
  rw [List.getElem?_mapIdx, h]
  rfl
theorem up_at {N : List ByteArray} (h : Up N) {i j : Nat} {a b : ByteArray} (hij : i < j) (ha : N[i]? = some a) (hb : N[j]? = some b) : Fd.lt a b = true := by
  have h1 := (List.getElem?_eq_some_iff.1 ha)
  have h2 := (List.getElem?_eq_some_iff.1 hb)
  obtain ⟨h1, rfl⟩ := h1
  obtain ⟨h2, rfl⟩ := h2
  exact List.pairwise_iff_getElem.1 h i j h1 h2 hij
theorem end_ok {N : List ByteArray} (hu : Up N) (hl : N.length ≤ 64) (hn : ∀ s ∈ N, Led.isName s = true) : Fd.Ok (endF N) := by
  refine ⟨by rw [end_len]; exact hl, fun i f hf => ?_⟩
  obtain ⟨s, hs, rfl⟩ := end_at hf
  have hi := (List.getElem?_eq_some_iff.1 hs).1
  refine ⟨hn s (List.mem_of_getElem? hs), fun j e g hg => ?_, by show 1 ≤ 4096; decide, fun k x hx => ?_⟩
  · obtain ⟨s', hs', rfl⟩ := end_at hg
    exact up_at hu (by omega) hs' hs
  · match k, hx with
    | 0, hx =>
      obtain rfl : (0, (i : Int) * 500000) = x := by simpa using hx
      exact ⟨⟨Int.le_refl _, by show (0 : Int) ≤ 73048; decide⟩, fun j e => by omega, (Num.clamp_in (by show _ ≤ (i : Int) * 500000; omega) (by show (i : Int) * 500000 ≤ _; omega)).symm⟩
    | k + 1, hx => simp at hx
theorem end_no {N : List ByteArray} (hl : 64 < N.length) : ¬ Fd.Ok (endF N) := fun h => by have := h.1; rw [end_len] at this; omega
theorem countP_lt (p : Nat → Bool) (i : Nat) : ∀ n, i ≤ n → (∀ j, j < i → p j = true) → (∀ j, i ≤ j → j < n → p j = false) → (List.range n).countP p = i := by
  intro n
  induction n with
  | zero => intro h _ _; obtain rfl : i = 0 := by omega
            rfl
  | succ n ih =>
    intro h h1 h2
    rw [List.range_succ, List.countP_append, List.countP_singleton]
    by_cases hin : i ≤ n
    · rw [ih hin h1 (fun j a b => h2 j a (by omega)), if_neg (by rw [h2 n hin (by omega)]; decide)]
      rfl
    · obtain rfl : i = n + 1 := by omega
      rw [if_pos (h1 n (by omega))]
      have : (List.range n).countP p = n := by
        have := List.countP_eq_length (p := p) (l := List.range n) |>.2 (fun a ha => h1 a (by have := List.mem_range.1 ha; omega))
        rwa [List.length_range] at this
      omega
theorem end_tells {N : List ByteArray} (hu : Up N) {s : ByteArray} (hs : s ∈ N) {day : Int} (hd : 0 ≤ day) : ∃ v, Fd.tells (endF N) day s 0 = some v := by
  obtain ⟨i, hi⟩ := List.getElem?_of_mem hs
  have hil := (List.getElem?_eq_some_iff.1 hi).1
  have hp : Fd.place (endF N) s = i := by
    unfold Fd.place
    rw [end_len]
    refine countP_lt _ i _ (by omega) (fun j hj => ?_) (fun j hj hjn => ?_)
    · obtain ⟨x, hx⟩ : ∃ x, N[j]? = some x := ⟨_, List.getElem?_eq_getElem (by omega)⟩
      unfold Fd.at'
      rw [end_at' hx]
      simp only [Option.getD_some, Bool.not_not]
      exact up_at hu hj hx hi
    · obtain ⟨x, hx⟩ : ∃ x, N[j]? = some x := ⟨_, List.getElem?_eq_getElem hjn⟩
      unfold Fd.at'
      rw [end_at' hx]
      simp only [Option.getD_some, Bool.not_not]
      rcases Nat.lt_or_eq_of_le hj with h | h
      · cases hlt : Fd.lt x s with
        | false => rfl
        | true => have := Fd.lt_trans (up_at hu h hi hx) hlt; rw [Fd.lt_irrefl] at this; cases this
      · subst h
        obtain rfl : s = x := Option.some.inj (hi.symm.trans hx)
        exact Fd.lt_irrefl _
  refine ⟨_, Fd.tells_some (f := (s, [(0, (i : Int) * 500000)])) (k := 0) (by rw [hp]; exact end_at' hi) rfl ?_⟩
  unfold Fd.upto
  show (List.range 1).countP _ = 1
  simp [List.range_succ, Fd.stampAt]
  omega
end Dn
end Go.Proofs.YtcpobnknmegkmaaGreatDoor
namespace Go.Proofs.YtcpobnknmegkmaaGreatDoor
open Go.RowKit
open Rw
set_option linter.unusedVariables false
set_option linter.unusedSimpArgs false
set_option maxRecDepth 100000
def live2 (x : Int × Int) : List Value := [.int .i64 x.1, .int .i64 x.2]
def tran3 (day : Int) (x : ByteArray × Int) : List Value := [.int .i64 day, .string x.1, .int .i64 x.2]
def LiveRow (base : Nat) (w : World) (v : Value) (l : List (Int × Int)) : Prop := w.ownsRow base 63 2 v l.length (l.flatMap live2)
def TranRow (base : Nat) (w : World) (v : Value) (day : Int) (l : List (ByteArray × Int)) : Prop := w.ownsRow base 49 3 v l.length (l.flatMap (tran3 day))
theorem info_live : (Tryz.prog.info? 63).map (fun i => (i.zero, i.size, i.bytes)) = some (some (.agg #[.int .i64 0, .int .i64 0]), 2, 16) := by kernel_rfl
theorem info_tran : (Tryz.prog.info? 49).map (fun i => (i.zero, i.size, i.bytes)) = some (some (.agg #[.int .i64 0, .string ⟨#[]⟩, .int .i64 0]), 3, 32) := by kernel_rfl
theorem step_live {w : World} {ops : Array Oper} {o : Oper} {a : Act} {K : Act → World → Prop} {Q : Exit → Act → World → Prop} {E : Prop} (hgd : o.guard = none) (s x : Operand)
    (ho : o.op = .call { callee := .builtin .append, args := #[s, x], argTypes := #[27, 27] })
    (base : Nat) (v : Value) (L : List (Int × Int)) (hs : a.eval s = v) (hown : LiveRow base w v L) (y : Int × Int) (hx : a.eval x = .slice (some ⟨w.heap.size, 0, none⟩) 1 1) (hbound : L.length + 1 ≤ 100000000) (hbase : base ≤ w.heap.size)
    (h : ∀ v' w', LiveRow base w' v' (L ++ [y]) → w.grownBy w' v.ownBlock → K (a.put o.dst v') w') :
    if Region.wanted o (yielded ops a.tmps) = true then Oper.wp Tryz.prog o a (w.alloc (.cells #[.int .i64 y.1, .int .i64 y.2] 63)) K Q else E := by
  have hw : Region.wanted o (yielded ops a.tmps) = true := by simp [Region.wanted, hgd]
  rw [if_pos hw]
  obtain ⟨i, hi, hz, hsz, hby⟩ := info_split info_live
  refine wp_append_own _ s x 27 ho base 63 i _ 2 16 Tryz.underlying27 hi hz hsz hby rfl (by decide) v L.length _ hs (World.ownsRow.alloc hown _) ⟨w.heap.size, 0, none⟩ 1 1 (live2 y) hx rfl
    (fun j u hj => ?_) (fun u hu => ?_) (by unfold maxLen; omega) (by omega) (by simp; omega) (fun v' w' h1 h2 _ => h v' w' ?_ (grown_trans (grown_of_below ((Below.refl _ _).alloc (Nat.le_refl _) _) _) h2))
  · rw [add_gen, World.cell?_alloc_new, Nat.zero_add, ← hj]
    simp [live2]
  · simp only [live2, List.mem_cons, List.not_mem_nil, or_false] at hu
    rcases hu with rfl | rfl <;> rfl
  · show World.ownsRow w' base _ 2 v' (L ++ [y]).length ((L ++ [y]).flatMap live2)
    rw [List.length_append, List.flatMap_append]
    simpa using h1
theorem step_tran {w : World} {ops : Array Oper} {o : Oper} {a : Act} {K : Act → World → Prop} {Q : Exit → Act → World → Prop} {E : Prop} (hgd : o.guard = none) (s x : Operand)
    (ho : o.op = .call { callee := .builtin .append, args := #[s, x], argTypes := #[28, 28] })
    (base : Nat) (v : Value) (day : Int) (L : List (ByteArray × Int)) (hs : a.eval s = v) (hown : TranRow base w v day L) (y : ByteArray × Int) (hx : a.eval x = .slice (some ⟨w.heap.size, 0, none⟩) 1 1) (hbound : L.length + 1 ≤ 100000000) (hbase : base ≤ w.heap.size)
    (h : ∀ v' w', TranRow base w' v' day (L ++ [y]) → w.grownBy w' v.ownBlock → K (a.put o.dst v') w') :
    if Region.wanted o (yielded ops a.tmps) = true then Oper.wp Tryz.prog o a (w.alloc (.cells #[.int .i64 day, .string y.1, .int .i64 y.2] 49)) K Q else E := by
  have hw : Region.wanted o (yielded ops a.tmps) = true := by simp [Region.wanted, hgd]
  rw [if_pos hw]
  obtain ⟨i, hi, hz, hsz, hby⟩ := info_split info_tran
  refine wp_append_own _ s x 28 ho base 49 i _ 3 32 Tryz.underlying28 hi hz hsz hby rfl (by decide) v L.length _ hs (World.ownsRow.alloc hown _) ⟨w.heap.size, 0, none⟩ 1 1 (tran3 day y) hx rfl
    (fun j u hj => ?_) (fun u hu => ?_) (by unfold maxLen; omega) (by omega) (by simp; omega) (fun v' w' h1 h2 _ => h v' w' ?_ (grown_trans (grown_of_below ((Below.refl _ _).alloc (Nat.le_refl _) _) _) h2))
  · rw [add_gen, World.cell?_alloc_new, Nat.zero_add, ← hj]
    simp [tran3]
  · simp only [tran3, List.mem_cons, List.not_mem_nil, or_false] at hu
    rcases hu with rfl | rfl | rfl <;> rfl
  · show World.ownsRow w' base _ 3 v' (L ++ [y]).length ((L ++ [y]).flatMap (tran3 day))
    rw [List.length_append, List.flatMap_append]
    simpa using h1
/-- The run's box. -/
def RBox (W : World) (rb : Nat) (day : Int) (vf vl vo : Value) : Prop := W.heap[rb]? = some (.cells #[.int .i64 day, vf, vl, vo] 54 (0, 0))
structure Runs (W0 : World) (rb : Nat) (day : Int) (vf : Value) (L : List (Int × Int)) (O : List (ByteArray × Int)) (vl vo : Value) (W : World) : Prop where
  bel : Below rb W0 W
  box : RBox W rb day vf vl vo
  ls : LiveRow (rb + 1) W vl L
  ts : TranRow (rb + 1) W vo day O
/-- What a run keeps: all but the machine and its rows. -/
structure KpR (mb : Nat) (W W' : World) : Prop where
  bel : Below mb W W'
  oth : ∀ (k : Nat) (cur : Array Value) (t : TypeId), k ≠ mb → t ≠ 63 → t ≠ 49 → W.heap[k]? = some (.cells cur t (0, 0)) → W'.heap[k]? = W.heap[k]?
theorem KpR.refl (mb : Nat) (W : World) : KpR mb W W := ⟨Below.refl _ _, fun _ _ _ _ _ _ _ => rfl⟩
theorem KpR.trans {mb : Nat} {A B C : World} (h : KpR mb A B) (k : KpR mb B C) : KpR mb A C :=
  ⟨h.bel.trans k.bel, fun j cur t hj h1 h2 e => (k.oth j cur t hj h1 h2 ((h.oth j cur t hj h1 h2 e).trans e)).trans (h.oth j cur t hj h1 h2 e)⟩
theorem KpR.below {mb : Nat} {W W' : World} (h : Below W.heap.size W W') (hm : mb ≤ W.heap.size) : KpR mb W W' := ⟨h.mono hm, fun k cur t _ _ _ e => h.block k (lt_of_block e)⟩
theorem KpR.box {mb : Nat} {W W' : World} (h : KpR mb W W') {k : Nat} {cur : Array Value} {t : TypeId} (hk : k ≠ mb) (h1 : t ≠ 63) (h2 : t ≠ 49) (e : W.heap[k]? = some (.cells cur t (0, 0))) : W'.heap[k]? = some (.cells cur t (0, 0)) := (h.oth k cur t hk h1 h2 e).trans e
theorem KpR.mset {mb : Nat} (W : World) (o : Nat) (v : Value) : KpR mb W (W.setCell ⟨mb, o, none⟩ v) :=
  ⟨(Below.refl mb W).setCell (p := ⟨mb, o, none⟩) (Nat.le_refl _) v, fun k cur t hk _ _ _ => Below.heap_setCell W ⟨mb, o, none⟩ v k hk⟩
theorem row_type {W : World} {base z n : Nat} {t : TypeId} {v : Value} {xs : List Value} (h : W.ownsRow base t z v n xs) {k : Nat} (hk : v.ownBlock = some k) : base ≤ k ∧ ∃ cur, W.heap[k]? = some (.cells cur t (0, 0)) := by
  rcases h.2 with ⟨rfl, _⟩ | ⟨g, cap, cur, rfl, hb, hc, _⟩
  · cases hk
  · obtain rfl : g = k := Option.some.inj hk
    exact ⟨hb, cur, hc⟩
theorem KpR.row {mb : Nat} {W W' : World} {v : Value} {z n : Nat} {t : TypeId} {xs : List Value} (h : W.ownsRow (mb + 1) t z v n xs) (ht : t = 63 ∨ t = 49) (g : W.grownBy W' v.ownBlock) (hm : mb < W.heap.size) : KpR mb W W' := by
  have hno : ∀ k, v.ownBlock = some k → mb < k ∧ ∃ cur, W.heap[k]? = some (.cells cur t (0, 0)) := fun k hk => row_type h hk
  refine ⟨⟨g.os, g.tape, g.output, g.size, fun k hk => ?_⟩, fun k cur t' _ h1 h2 e => ?_⟩
  · exact g.block k (Nat.lt_trans hk hm) fun e => by have := (hno k e.symm).1; omega
  · refine g.block k (lt_of_block e) fun e2 => ?_
    obtain ⟨-, cur2, h5⟩ := hno k e2.symm
    have e6 := h5.symm.trans e
    simp only [Option.some.injEq, Obj.cells.injEq] at e6
    rcases ht with rfl | rfl
    · exact h1 e6.2.1.symm
    · exact h2 e6.2.1.symm
section
variable {W0 : World} {rb : Nat} {day : Int} {vf : Value} {L : List (Int × Int)} {O : List (ByteArray × Int)} {vl vo : Value} {W W' : World}
theorem Runs.lt (h : Runs W0 rb day vf L O vl vo W) : rb < W.heap.size := lt_of_block h.box
/-- All is kept but blocks that the call lays. -/
theorem Runs.below (h : Runs W0 rb day vf L O vl vo W) (b : Below W.heap.size W W') : Runs W0 rb day vf L O vl vo W' :=
  ⟨h.bel.trans (b.mono (Nat.le_of_lt h.lt)), box_below b h.box, World.ownsRow.kept h.ls (grown_of_below b none) (by
    rcases hv : vl.ownBlock with _ | k
    · exact .inl rfl
    · exact .inr (by simp)), World.ownsRow.kept h.ts (grown_of_below b none) (by
    rcases hv : vo.ownBlock with _ | k
    · exact .inl rfl
    · exact .inr (by simp))⟩
theorem Runs.rows_set {t : TypeId} {z n : Nat} {v : Value} {xs : List Value} (h : W.ownsRow (rb + 1) t z v n xs) (o : Nat) (u : Value) : (W.setCell ⟨rb, o, none⟩ u).ownsRow (rb + 1) t z v n xs :=
  World.ownsRow.kept h (grown_set W rb o u) (.inr (own_lt h (Nat.lt_succ_self _)))
theorem Runs.pushLive {v' : Value} (h : Runs W0 rb day vf L O vl vo W) {y : Int × Int} (row : LiveRow (rb + 1) W' v' (L ++ [y])) (g : W.grownBy W' vl.ownBlock) :
    Runs W0 rb day vf (L ++ [y]) O v' vo (W'.setCell ⟨rb, 2, none⟩ v') ∧ KpR rb W (W'.setCell ⟨rb, 2, none⟩ v') := by
  have K := KpR.row h.ls (.inl rfl) g h.lt
  have hb : RBox W' rb day vf vl vo := (g.block rb h.lt fun e => own_lt h.ls (Nat.lt_succ_self _) e.symm).trans h.box
  have ht := World.ownsRow.kept h.ts g (row_ne h.ts h.ls (by decide))
  exact ⟨⟨(h.bel.trans K.bel).trans (KpR.mset W' 2 _).bel, heap_setCell_same W' rb 2 _ _ _ hb, Runs.rows_set row 2 _, Runs.rows_set ht 2 _⟩, K.trans (KpR.mset W' 2 _)⟩
theorem Runs.pushTran {v' : Value} (h : Runs W0 rb day vf L O vl vo W) {y : ByteArray × Int} (row : TranRow (rb + 1) W' v' day (O ++ [y])) (g : W.grownBy W' vo.ownBlock) :
    Runs W0 rb day vf L (O ++ [y]) vl v' (W'.setCell ⟨rb, 3, none⟩ v') ∧ KpR rb W (W'.setCell ⟨rb, 3, none⟩ v') := by
  have K := KpR.row h.ts (.inr rfl) g h.lt
  have hb : RBox W' rb day vf vl vo := (g.block rb h.lt fun e => own_lt h.ts (Nat.lt_succ_self _) e.symm).trans h.box
  have ht := World.ownsRow.kept h.ls g (row_ne h.ls h.ts (by decide))
  exact ⟨⟨(h.bel.trans K.bel).trans (KpR.mset W' 3 _).bel, heap_setCell_same W' rb 3 _ _ _ hb, Runs.rows_set ht 3 _, Runs.rows_set row 3 _⟩, K.trans (KpR.mset W' 3 _)⟩
theorem Runs.start (W0 : World) (day : Int) (vf : Value) : Runs W0 W0.heap.size day vf [] [] (.slice none 0 0) (.slice none 0 0) (W0.alloc (.cells #[.int .i64 day, vf, .slice none 0 0, .slice none 0 0] 54)) :=
  ⟨(Below.refl _ _).alloc (Nat.le_refl _) _, heap_alloc_new _ _, World.ownsRow_nil _ _ _ _, World.ownsRow_nil _ _ _ _⟩
end
/-- What a run of a contract leaves. -/
def AcqPost (W0 : World) (rb : Nat) (day : Int) (vf : Value) (L : List (Int × Int)) (O : List (ByteArray × Int)) (r : Dn.R) (w : World) (e : Ending) (w' : World) : Prop :=
  (∃ x, e = .returned x) ∧ (∃ vl vo, Runs W0 rb day vf (L ++ r.1) (O ++ r.2) vl vo w') ∧ KpR rb w w'
/-- What a run of contracts stands on. -/
structure RunEnv (W0 : World) (rb : Nat) (F : List Fd.Feed) (day : Int) (vf : Value) : Prop where
  fs : FeedsAt W0 vf F
  ok : Fd.Ok F
  day : 0 ≤ day ∧ day ≤ 73048
  rb : W0.heap.size ≤ rb
namespace Dn
open Co
theorem acq_len {E : Eyes} (hE : EyesOk E) (t : T) : ∀ (a f : Int), t.letter = 99 → NumOk f → (acq E t a f).1.length ≤ t.size ∧ (acq E t a f).2.length ≤ t.size := by
  induction t using T.ind with | h op n s ks ih => ?_
  intro a f hx hf
  have hz : (T.mk op n s ks).size = 1 + sizes ks := by rw [T.size]
  have kid : ∀ (i : Nat) (k : T) (g : Int), ks[i]? = some k → k.letter = 99 → NumOk g → (kidA E ks i a g).1.length ≤ sizes ks ∧ (kidA E ks i a g).2.length ≤ sizes ks := fun i k g hk hkx hg => by
    rw [kidA_at hk]
    have := ih k (List.mem_of_getElem? hk) (a + 1 + (sizes (ks.take i) : Nat)) g hkx hg
    have h2 := sizes_mem (List.mem_of_getElem? hk)
    exact ⟨Nat.le_trans this.1 h2, Nat.le_trans this.2 h2⟩
  have up : ∀ r : R, r.1.length ≤ sizes ks ∧ r.2.length ≤ sizes ks → r.1.length ≤ (T.mk op n s ks).size ∧ r.2.length ≤ (T.mk op n s ks).size := fun r h => by omega
  have one : (waitR a f).1.length ≤ (T.mk op n s ks).size ∧ (waitR a f).2.length ≤ (T.mk op n s ks).size := by unfold waitR; simp; omega
  rcases contract_of hx with (⟨rfl, rfl⟩ | ⟨rfl, rfl⟩) | ⟨h, k, rfl, hk⟩ | ⟨rfl, o, k, rfl, ho, hk⟩ | ⟨h, k, j, rfl, hk, hj⟩ | ⟨rfl, o, k, j, rfl, ho, hk, hj⟩ | ⟨rfl, o, k, rfl, ho, hk⟩
  · rw [acq_23]; simp [nothing]
  · rw [acq_24, hz]; simp; split <;> simp
  · rcases h with rfl | rfl
    · rw [acq_25]; exact up _ (kid 0 k _ rfl hk num_neg)
    · rw [acq_29]
      split
      · exact up _ (kid 0 k _ rfl hk hf)
      · exact one
  · rw [acq_26]
    split
    · exact one
    · exact up _ (kid 1 k _ rfl hk (num_mul _ _))
  · rcases h with rfl | rfl
    · rw [acq_27, kidA_at (i := 0) rfl, kidA_at (i := 1) rfl]
      have h1 := ih k (by simp) (a + 1 + (sizes ([k, j].take 0) : Nat)) f hk hf
      have h2 := ih j (by simp) (a + 1 + (sizes ([k, j].take 1) : Nat)) f hj hf
      simp only [sizes, Nat.add_zero] at hz
      unfold both
      simp only [List.length_append]
      omega
    · rw [acq_31]
      split
      · exact up _ (kid 1 j _ rfl hj hf)
      · exact one
  · rw [acq_28]
    split
    · exact one
    · rename_i x hv
      rcases (value_ty hE o 98 x ho (by decide) (by decide) hv).1 rfl with rfl | rfl
      · exact up _ (kid 2 j _ rfl hj hf)
      · exact up _ (kid 1 k _ rfl hk hf)
  · rw [acq_30]
    split
    · simp [nothing]
    · split
      · exact up _ (kid 1 k _ rfl hk hf)
      · exact one
end Dn
end Go.Proofs.YtcpobnknmegkmaaGreatDoor
namespace Go.Proofs.YtcpobnknmegkmaaGreatDoor
open Go.RowKit
open Rw
set_option linter.unusedVariables false
set_option linter.unusedSimpArgs false
set_option maxRecDepth 100000
theorem CoreIn.far {ok : Nat → Prop} {W0 W : World} {rb : Nat} {t : Co.T} {v : Value} (h : CoreIn ok W0 t v) (hb : Below rb W0 W) (hr : W0.heap.size ≤ rb) : CoreIn ok W t v :=
  h.keep fun b ho hl => ⟨ho, hb.block b (Nat.lt_of_lt_of_le hl hr)⟩
set_option maxHeartbeats 4000000 in
theorem dnkid_any {W0 : World} {rb : Nat} {F : List Fd.Feed} {day : Int} {vf : Value} (hE : RunEnv W0 rb F day vf) (ok : Nat → Prop) {op n : Int} {s : ByteArray} {ks : List Co.T} (v : Value) (hv : CoreIn ok W0 (.mk op n s ks) v) (hsz : (Co.T.mk op n s ks).size ≤ 2000000)
    (a f : Int) (ha : 0 ≤ a ∧ a ≤ 4000000) (i : Nat) (k : Co.T) (hki : ks[i]? = some k) (L : List (Int × Int)) (O : List (ByteArray × Int)) (r : Dn.R)
    (HA : ∀ vk w1 vl vo, CoreIn ok W0 k vk → Runs W0 rb day vf L O vl vo w1 → Calls Tryz.prog 12 #[.pointer (some ⟨rb, 0, none⟩), vk, .int .i64 (a + 1 + (Co.sizes (ks.take i) : Nat)), .int .i64 f] w1 (AcqPost W0 rb day vf L O r w1))
    (w : World) (vl vo : Value) (hR : Runs W0 rb day vf L O vl vo w) :
    Calls Tryz.prog 19 #[.pointer (some ⟨rb, 0, none⟩), v, .int .i64 a, .int .i64 (i : Int), .int .i64 f] w (AcqPost W0 rb day vf L O r w) := by
  obtain ⟨q, c, rfl, hc, ho, hn, hs, hk⟩ := hv.open
  simp only [Co.T.op, Co.T.n, Co.T.s, Co.T.ks] at hk hc ⊢
  have HK := hid' hk
  have HAA := hid' HA
  have HRR := hid' hR
  have HEE := hid' hE
  have HZS := hid' (show Co.sizes ks ≤ 2000000 by rw [Co.T.size] at hsz; omega)
  have HSZ := hid' (fun k (h : k ∈ ks) => show k.size ≤ 2000000 by have := Co.sizes_mem h; rw [Co.T.size] at hsz; omega)
  have HB := hid' ((Below.refl w.heap.size w).alloc (Nat.le_refl _) (.cells #[.int .i64 op, .int .i64 n, .string s, .slice q ks.length c] 24))
  have HC := hid' (heap_alloc_new w (.cells #[.int .i64 op, .int .i64 n, .string s, .slice q ks.length c] 24))
  have hil : i < ks.length := (List.getElem?_eq_some_iff.1 hki).1
  have HKI := hid' hki
  have HL := hid' (show i < ks.length ∧ ks.length ≤ 2000000 from ⟨hil, by have := Co.sizes_len ks; have := HZS.out; omega⟩)
  have haw : IntKind.i64.wrap (a + 1) = a + 1 := IntWalk.i64_in _ (by omega)
  have j1 : (0 : Int) ≤ (i : Int) := by omega
  have j2 : (i : Int) < (ks.length : Int) := by omega
  have j3 : (i : Int) ≤ (c : Int) := by omega
  have j4 : i ≤ c := by omega
  have HAB := hid' ha
  clear hk ho hn hs hsz hv HA hR hc hE hki hil ha
  go_enter Tryz.func19, Tryz.ntmps19
  go_upto_region 1 with (fail)
  generalize World.alloc _ _ = w1 at *
  obtain ⟨c0, c1, c2, c3⟩ := heap_cells4 HC.out
  go_wp2_with fail
  go_loopw [2, 19] (fun mv iv wr => ∃ (j : Nat) (m : Int), iv = .int .i64 (j : Int) ∧ mv = .int .i64 m ∧ j ≤ i ∧ Hid (Below w1.heap.size w1 wr ∧ m = a + 1 + (Co.sizes (ks.take j) : Nat))) (fun _ iv _ => i - (intOf iv).toNat)
  case atStart => exact ⟨0, a + 1, rfl, rfl, Nat.zero_le _, hid' ⟨Below.refl _ _, by simp [Co.sizes]⟩⟩
  case round =>
    obtain ⟨j, m, rfl, rfl, hj, HJ⟩ := hrel
    have hc1 := (HJ.out.1.block _ (lt_of_block HC.out)).trans HC.out
    obtain ⟨d0, d1, d2, d3⟩ := heap_cells4 hc1
    have HB1 := hid' (HB.out.trans (HJ.out.1.mono HB.out.size))
    have HR1 := hid' (HRR.out.below HB1.out)
    clear hc1
    by_cases hji : j < i
    · obtain ⟨u, hu⟩ : ∃ u, ks[j]? = some u := ⟨_, List.getElem?_eq_getElem (by have := HL.out; omega)⟩
      obtain ⟨vk, hrow, hvk⟩ := HK.out j u hu
      obtain ⟨b, off, x0, y0, z0, u0, e, hlb, hve, r0, r1, r2, r3⟩ := hrow.keep (fun b h hl => ⟨h, HR1.out.bel.block b (Nat.lt_of_lt_of_le hl HEE.out.rb)⟩)
      subst e
      have HKV := hid' hvk
      obtain ⟨pk, ck, rfl, -, -, -, -, -⟩ := hvk.open
      obtain ⟨rfl, rfl, rfl, rfl⟩ : .int .i64 u.op = x0 ∧ .int .i64 u.n = y0 ∧ .string u.s = z0 ∧ .slice pk u.ks.length ck = u0 := by simpa using hve
      have g0 : decide ((j : Int) < (i : Int)) = true := by simp; omega
      have k1 : (0 : Int) ≤ (j : Int) := by omega
      have k2 : (j : Int) < (i : Int) := by omega
      have hiw : IntKind.i64.wrap ((j : Int) + 1) = (j : Int) + 1 := IntWalk.i64_in _ (by have := HL.out; omega)
      have HUU := hid' hu
      have HM := hid' (show m + (u.size : Int) = a + 1 + (Co.sizes (ks.take (j + 1)) : Nat) by rw [Co.sizes_take hu, HJ.out.2]; omega)
      have hmw : IntKind.i64.wrap (m + (u.size : Int)) = m + (u.size : Int) := IntWalk.i64_in _ (by
        have h1 := HM.out
        have h2 := Co.sizes_take_le ks (j + 1)
        have h3 := HZS.out
        have h4 := HAB.out
        omega)
      have hba := (Below.refl wr.heap.size wr).alloc (Nat.le_refl _) (.cells #[.int .i64 u.op, .int .i64 u.n, .string u.s, .slice pk u.ks.length ck] 24)
      have hno := heap_alloc_new wr (.cells #[.int .i64 u.op, .int .i64 u.n, .string u.s, .slice pk u.ks.length ck] 24)
      obtain ⟨kop, hkop⟩ : ∃ o, Hid (u.op = o) := ⟨_, hid' rfl⟩
      obtain ⟨kn, hkn⟩ : ∃ o, Hid (u.n = o) := ⟨_, hid' rfl⟩
      obtain ⟨kst, hks⟩ : ∃ o, Hid (u.s = o) := ⟨_, hid' rfl⟩
      obtain ⟨kl, hkl⟩ : ∃ o, Hid (u.ks.length = o) := ⟨_, hid' rfl⟩
      rw [hkop.out, hkn.out, hks.out, hkl.out] at HKV hba hno
      rw [hkop.out] at r0
      rw [hkn.out] at r1
      rw [hks.out] at r2
      rw [hkl.out] at r3
      clear hve hu hrow hvk
      go_upto_region 5 with (fail)
      obtain ⟨kb, hkb⟩ : ∃ kb, kb = wr.heap.size := ⟨_, rfl⟩
      rw [← hkb] at hno ⊢
      clear hkb r0 r1 r2 r3 d0 d1 d2 d3
      have HKB := hid' hno
      have HBA := hid' hba
      clear hba hno
      generalize World.alloc wr _ = w4 at *
      obtain ⟨d0, d1, d2, d3⟩ := heap_cells4 HKB.out
      go_wp2_with fail
      refine (dnsize_any u ok _ w4 ((HKV.out.far HR1.out.bel HEE.out.rb).under HBA.out) (HSZ.out u (List.mem_of_getElem? HUU.out))).mono ?_
      rintro e w5 ⟨rfl, b5⟩
      have HJ5 := hid' ((HJ.out.1.trans (HBA.out.mono HJ.out.1.size)).trans (b5.mono (HJ.out.1.trans (HBA.out.mono HJ.out.1.size)).size))
      clear b5 d0 d1 d2 d3
      have HNX := hid' (show Below w1.heap.size w1 w5 ∧ m + (u.size : Int) = a + 1 + (Co.sizes (ks.take (j + 1)) : Nat) from ⟨HJ5.out, HM.out⟩)
      go_wp2_with fail
      go_roundw
      case rel => exact ⟨j + 1, m + (u.size : Int), by go_num, rfl, by omega, HNX⟩
      case measure => simp only [intOf]; omega
    · obtain rfl : j = i := by omega
      have g0 : decide (j < j) = false := by simp
      obtain ⟨vk, hrow, hvk⟩ := HK.out j k HKI.out
      obtain ⟨b, off, x0, y0, z0, u0, e, hlb, hve, r0, r1, r2, r3⟩ := hrow.keep (fun b h hl => ⟨h, HR1.out.bel.block b (Nat.lt_of_lt_of_le hl HEE.out.rb)⟩)
      subst e
      have HKV := hid' hvk
      subst hve
      have HM := hid' HJ.out.2
      have HCA := hid' (HAA.out _ wr vl vo HKV.out HR1.out)
      rw [← HM.out] at HCA
      have HKP := hid' (KpR.below (mb := rb) HB1.out (Nat.le_of_lt HRR.out.lt))
      clear hji hrow hvk
      go_wp2_with (first | (go_at_call 12; refine HCA.out.mono ?_; rintro e w5 ⟨⟨x, rfl⟩, hr5, k5⟩; have HP5 := hid' (And.intro hr5 (HKP.out.trans k5)); clear hr5 k5))
      refine bodyPost_end (results_none rfl _ _ _) rfl ⟨⟨_, rfl⟩, HP5.out.1, HP5.out.2⟩
end Go.Proofs.YtcpobnknmegkmaaGreatDoor
namespace Go.Proofs.YtcpobnknmegkmaaGreatDoor
open Go.RowKit
set_option linter.unusedVariables false
set_option linter.unusedSimpArgs false
set_option maxRecDepth 100000
theorem dntruth_any (b : Bool) (w : World) : Calls Tryz.prog 60 #[.bool b] w (Ret (.int .i64 (Co.tr b)) w) := by
  cases b with
  | true =>
    go_enter Tryz.func60, Tryz.ntmps60
    go_wp2_with fail
    go_ret
    exact ⟨rfl, rfl⟩
  | false =>
    go_enter Tryz.func60, Tryz.ntmps60
    go_wp2_with fail
    go_ret
    exact ⟨rfl, rfl⟩
theorem dnisDay_any (n : Int) (w : World) : Calls Tryz.prog 23 #[.int .i64 n] w (Ret (.bool (decide (0 ≤ n) && decide (n ≤ 73048))) w) := by
  by_cases h1 : 0 ≤ n
  · have g1 : decide (0 ≤ n) = true := decide_eq_true h1
    have e := hid' (show (decide (0 ≤ n) && decide (n ≤ 73048)) = decide (n ≤ 73048) by rw [g1, Bool.true_and])
    rw [e.out]
    clear h1
    go_enter Tryz.func23, Tryz.ntmps23
    go_wp2_with fail
    go_ret
    exact ⟨rfl, rfl⟩
  · have g1 : decide (0 ≤ n) = false := decide_eq_false h1
    have e := hid' (show (decide (0 ≤ n) && decide (n ≤ 73048)) = false by rw [g1, Bool.false_and])
    rw [e.out]
    clear h1
    go_enter Tryz.func23, Tryz.ntmps23
    go_wp2_with fail
    go_ret
    exact ⟨rfl, rfl⟩
theorem dgives_ret {v : Value} {w w' : World} {e : Ending} (h : Ret v w e w') : Gives v w e w' := ⟨h.1, by rw [h.2]; exact Below.refl _ _⟩
theorem dgives_drew {v : Value} {w w' : World} {e : Ending} (h : Drew v w e w') : Gives v w e w' := by
  obtain ⟨h1, n, h2⟩ := h
  exact ⟨h1, by rw [h2]; exact Below.drewn (Below.refl _ _) n⟩
theorem dnreckon_7 (b c : Int) (w : World) : Calls Tryz.prog 39 #[.int .i64 7, .int .i64 b, .int .i64 c] w (Gives (.int .i64 (Num.add b c)) w) := by
  have HC := hid' (fun W => add_any b c W)
  generalize Num.add b c = R at *
  go_enter Tryz.func39, Tryz.ntmps39
  go_wp2_with (first | (go_at_call 57; refine (HC.out _).mono ?_; intro e w' hg; have hg := dgives_ret hg; obtain ⟨rfl, hb1⟩ := hg))
  go_ret
  exact ⟨rfl, hb1⟩
theorem dnreckon_8 (b c : Int) (w : World) : Calls Tryz.prog 39 #[.int .i64 8, .int .i64 b, .int .i64 c] w (Gives (.int .i64 (Num.sub b c)) w) := by
  have HC := hid' (fun W => sub_any b c W)
  generalize Num.sub b c = R at *
  go_enter Tryz.func39, Tryz.ntmps39
  go_wp2_with (first | (go_at_call 58; refine (HC.out _).mono ?_; intro e w' hg; have hg := dgives_ret hg; obtain ⟨rfl, hb1⟩ := hg))
  go_ret
  exact ⟨rfl, hb1⟩
theorem dnreckon_9 (b c : Int) (w : World) : Calls Tryz.prog 39 #[.int .i64 9, .int .i64 b, .int .i64 c] w (Gives (.int .i64 (Num.mul b c)) w) := by
  have HC := hid' (fun W => mul_any b c W)
  generalize Num.mul b c = R at *
  go_enter Tryz.func39, Tryz.ntmps39
  go_wp2_with (first | (go_at_call 26; refine (HC.out _).mono ?_; intro e w' hg; have hg := dgives_drew hg; obtain ⟨rfl, hb1⟩ := hg))
  go_ret
  exact ⟨rfl, hb1⟩
theorem dnreckon_10 (b c : Int) (w : World) : Calls Tryz.prog 39 #[.int .i64 10, .int .i64 b, .int .i64 c] w (Gives (.int .i64 (Num.div b c)) w) := by
  have HC := hid' (fun W => div_any b c W)
  generalize Num.div b c = R at *
  go_enter Tryz.func39, Tryz.ntmps39
  go_wp2_with (first | (go_at_call 59; refine (HC.out _).mono ?_; intro e w' hg; have hg := dgives_drew hg; obtain ⟨rfl, hb1⟩ := hg))
  go_ret
  exact ⟨rfl, hb1⟩
theorem dnreckon_11 (b c : Int) (w : World) : Calls Tryz.prog 39 #[.int .i64 11, .int .i64 b, .int .i64 c] w (Gives (.int .i64 (Co.tr (decide (b < c)))) w) := by
  have HC := hid' (fun W => dntruth_any (decide (b < c)) W)
  go_enter Tryz.func39, Tryz.ntmps39
  go_wp2_with (first | (go_at_call 60; refine (HC.out _).mono ?_; intro e w' hg; have hg := dgives_ret hg; obtain ⟨rfl, hb1⟩ := hg))
  go_ret
  exact ⟨rfl, hb1⟩
theorem dnreckon_17 (b c : Int) (w : World) : Calls Tryz.prog 39 #[.int .i64 17, .int .i64 b, .int .i64 c] w (Gives (.int .i64 (Co.tr (decide (b < c)))) w) := by
  have HC := hid' (fun W => dntruth_any (decide (b < c)) W)
  go_enter Tryz.func39, Tryz.ntmps39
  go_wp2_with (first | (go_at_call 60; refine (HC.out _).mono ?_; intro e w' hg; have hg := dgives_ret hg; obtain ⟨rfl, hb1⟩ := hg))
  go_ret
  exact ⟨rfl, hb1⟩
theorem dnreckon_12 (b c : Int) (w : World) : Calls Tryz.prog 39 #[.int .i64 12, .int .i64 b, .int .i64 c] w (Gives (.int .i64 (Co.tr (decide (b ≤ c)))) w) := by
  have HC := hid' (fun W => dntruth_any (decide (b ≤ c)) W)
  go_enter Tryz.func39, Tryz.ntmps39
  go_wp2_with (first | (go_at_call 60; refine (HC.out _).mono ?_; intro e w' hg; have hg := dgives_ret hg; obtain ⟨rfl, hb1⟩ := hg))
  go_ret
  exact ⟨rfl, hb1⟩
theorem dnreckon_13 (b c : Int) (w : World) : Calls Tryz.prog 39 #[.int .i64 13, .int .i64 b, .int .i64 c] w (Gives (.int .i64 (Co.tr (decide (b = c)))) w) := by
  have HC := hid' (fun W => dntruth_any (decide (b = c)) W)
  by_cases hb : b = c
  · have e := hid' (show decide (b = c) = true from decide_eq_true hb)
    rw [e.out] at HC ⊢
    have e2 : (b == c) = true := by rw [hb]; exact beq_self_eq_true _
    clear hb
    generalize Co.tr true = R at *
    go_enter Tryz.func39, Tryz.ntmps39
    go_wp2_with (first | (go_at_call 60; refine (HC.out _).mono ?_; intro e w' hg; have hg := dgives_ret hg; obtain ⟨rfl, hb1⟩ := hg))
    go_ret
    exact ⟨rfl, hb1⟩
  · have e := hid' (show decide (b = c) = false from decide_eq_false hb)
    rw [e.out] at HC ⊢
    have e2 : (b == c) = false := by rw [beq_eq_false_iff_ne]; exact hb
    clear hb
    generalize Co.tr false = R at *
    go_enter Tryz.func39, Tryz.ntmps39
    go_wp2_with (first | (go_at_call 60; refine (HC.out _).mono ?_; intro e w' hg; have hg := dgives_ret hg; obtain ⟨rfl, hb1⟩ := hg))
    go_ret
    exact ⟨rfl, hb1⟩
theorem dnreckon_18 (b c : Int) (w : World) : Calls Tryz.prog 39 #[.int .i64 18, .int .i64 b, .int .i64 c] w (Gives (.int .i64 (Dt.plus b (Num.whole c))) w) := by
  have HC := hid' (fun W => dplus_any b (Num.whole c) W)
  have HW := hid' (whole_any c w)
  generalize Num.whole c = q at *
  generalize Dt.plus b q = R at *
  go_enter Tryz.func39, Tryz.ntmps39
  go_wp2_with (first | (go_at_call 38; refine (HC.out _).mono ?_; intro e w' hg; have hg := dgives_ret hg; obtain ⟨rfl, hb1⟩ := hg) | (go_at_call 61; refine HW.out.mono ?_; rintro e w' ⟨rfl, rfl⟩))
  go_ret
  exact ⟨rfl, hb1⟩
theorem dnreckon_19 (b c : Int) (w : World) : Calls Tryz.prog 39 #[.int .i64 19, .int .i64 b, .int .i64 c] w (Gives (.int .i64 (Dt.months b (Num.whole c))) w) := by
  have HC := hid' (fun W => months_any b (Num.whole c) W)
  have HW := hid' (whole_any c w)
  generalize Num.whole c = q at *
  generalize Dt.months b q = R at *
  go_enter Tryz.func39, Tryz.ntmps39
  go_wp2_with (first | (go_at_call 62; refine (HC.out _).mono ?_; intro e w' hg; obtain ⟨rfl, hb1⟩ := hg) | (go_at_call 61; refine HW.out.mono ?_; rintro e w' ⟨rfl, rfl⟩))
  go_ret
  exact ⟨rfl, hb1⟩
theorem dnreckon_20 (b c : Int) (w : World) : Calls Tryz.prog 39 #[.int .i64 20, .int .i64 b, .int .i64 c] w (Gives (.int .i64 (Dt.years b c)) w) := by
  have HC := hid' (fun W => years_any b c W)
  generalize Dt.years b c = R at *
  go_enter Tryz.func39, Tryz.ntmps39
  go_wp2_with (first | (go_at_call 63; refine (HC.out _).mono ?_; intro e w' hg; obtain ⟨rfl, hb1⟩ := hg))
  go_ret
  exact ⟨rfl, hb1⟩
theorem dnreckon_21 (b c : Int) (w : World) : Calls Tryz.prog 39 #[.int .i64 21, .int .i64 b, .int .i64 c] w (Gives (.int .i64 (Dt.years30 b c)) w) := by
  have HC := hid' (fun W => years30_any b c W)
  generalize Dt.years30 b c = R at *
  go_enter Tryz.func39, Tryz.ntmps39
  go_wp2_with (first | (go_at_call 64; refine (HC.out _).mono ?_; intro e w' hg; obtain ⟨rfl, hb1⟩ := hg))
  go_ret
  exact ⟨rfl, hb1⟩
theorem dnreckon_any (op b c : Int) (h : 7 ≤ op ∧ op ≤ 21 ∧ op ≠ 14 ∧ op ≠ 15 ∧ op ≠ 16) (w : World) : Calls Tryz.prog 39 #[.int .i64 op, .int .i64 b, .int .i64 c] w (Gives (.int .i64 (Dn.rk op b c)) w) := by
  have hc : op = 7 ∨ op = 8 ∨ op = 9 ∨ op = 10 ∨ op = 11 ∨ op = 12 ∨ op = 13 ∨ op = 17 ∨ op = 18 ∨ op = 19 ∨ op = 20 ∨ op = 21 := by omega
  clear h
  rcases hc with rfl | rfl | rfl | rfl | rfl | rfl | rfl | rfl | rfl | rfl | rfl | rfl
  · rw [Dn.rk_7]; exact dnreckon_7 b c w
  · rw [Dn.rk_8]; exact dnreckon_8 b c w
  · rw [Dn.rk_9]; exact dnreckon_9 b c w
  · rw [Dn.rk_10]; exact dnreckon_10 b c w
  · rw [Dn.rk_11]; exact dnreckon_11 b c w
  · rw [Dn.rk_12]; exact dnreckon_12 b c w
  · rw [Dn.rk_13]; exact dnreckon_13 b c w
  · rw [Dn.rk_17]; exact dnreckon_17 b c w
  · rw [Dn.rk_18]; exact dnreckon_18 b c w
  · rw [Dn.rk_19]; exact dnreckon_19 b c w
  · rw [Dn.rk_20]; exact dnreckon_20 b c w
  · rw [Dn.rk_21]; exact dnreckon_21 b c w
end Go.Proofs.YtcpobnknmegkmaaGreatDoor
namespace Go.Proofs.YtcpobnknmegkmaaGreatDoor
open Go.RowKit
set_option linter.unusedVariables false
set_option linter.unusedSimpArgs false
namespace Dn
open Co
/-- A term that can be valued. -/
def Obs (t : T) : Prop := t.letter ≠ 0 ∧ t.letter ≠ 99
theorem obs_n {t : T} (h : t.letter = 110) : Obs t := by unfold Obs; rw [h]; decide
theorem obs_b {t : T} (h : t.letter = 98) : Obs t := by unfold Obs; rw [h]; decide
theorem obs_d {t : T} (h : t.letter = 100) : Obs t := by unfold Obs; rw [h]; decide
def twoOp (op : Int) : Prop := 7 ≤ op ∧ op ≤ 21 ∧ op ≠ 14 ∧ op ≠ 15 ∧ op ≠ 16
theorem observable_of {op n : Int} {s : ByteArray} {ks : List T} (h : Obs (.mk op n s ks)) :
    (op = 1 ∨ op = 2 ∨ op = 3) ∨ (op = 4 ∧ -3660 ≤ n ∧ n ≤ 3660) ∨ (op = 5 ∧ -3660 ≤ n ∧ n ≤ 3660) ∨ ((op = 6 ∨ op = 14) ∧ ∃ k, ks = [k] ∧ Obs k ∧ (op = 14 → k.letter = 98)) ∨
    ((op = 15 ∨ op = 16) ∧ ∃ k j, ks = [k, j] ∧ k.letter = 98 ∧ Obs j) ∨ (op = 22 ∧ ∃ k j i, ks = [k, j, i] ∧ k.letter = 98 ∧ Obs j ∧ Obs i) ∨ (twoOp op ∧ ∃ k j, ks = [k, j] ∧ Obs k ∧ Obs j) := by
  obtain ⟨h0, h99⟩ := h
  by_cases h22 : op = 22
  · subst h22
    obtain ⟨a, b, c, rfl, h1, h2, h3, h4, -⟩ := (letter_22 h0).1 rfl
    exact .inr (.inr (.inr (.inr (.inr (.inl ⟨rfl, a, b, c, rfl, h1, ⟨by rw [h2]; exact h0, by rw [h2]; exact h99⟩, ⟨by rw [h3]; exact h0, by rw [h3]; exact h99⟩⟩)))))
  · obtain ⟨hw, hf⟩ := letter_inv rfl h0 h22
    generalize hx : (T.mk op n s ks).letter = x at *
    rcases op_cases (want_in hw) with rfl | rfl | rfl | rfl | rfl | rfl | rfl | rfl | rfl | rfl | rfl | rfl | rfl | rfl | rfl | rfl | rfl | rfl | rfl | rfl | rfl | rfl | rfl | rfl | rfl | rfl | rfl | rfl | rfl | rfl | rfl
    rotate_left 21
    · exact absurd rfl h22
    all_goals try (exfalso; apply h99; simp only [want_23, want_24, want_25, want_26, want_27, want_28, want_29, want_30, want_31, Option.some.injEq, Prod.mk.injEq] at hw; exact hw.2.symm)
    all_goals simp only [want_1, want_2, want_3, want_4, want_5, want_6, want_7, want_8, want_9, want_10, want_11, want_12, want_13, want_14, want_15, want_16, want_17, want_18, want_19, want_20, want_21, Option.some.injEq, Prod.mk.injEq] at hw
    · exact .inl (.inl rfl)
    · exact .inl (.inr (.inl rfl))
    · exact .inl (.inr (.inr rfl))
    · refine .inr (.inl ⟨rfl, ?_⟩)
      simp [fields, Gen.within] at hf
      omega
    · refine .inr (.inr (.inl ⟨rfl, ?_⟩))
      simp [fields, Gen.within] at hf
      omega
    · obtain ⟨k, hk, h⟩ := map_one hw.1
      exact .inr (.inr (.inr (.inl ⟨.inl rfl, k, hk, obs_n h, fun e => absurd e (by decide)⟩)))
    · obtain ⟨k, j, hk, h, h'⟩ := map_two hw.1
      exact .inr (.inr (.inr (.inr (.inr (.inr ⟨by unfold twoOp; omega, k, j, hk, by first | exact obs_n h | exact obs_d h, by first | exact obs_n h' | exact obs_d h'⟩)))))
    · obtain ⟨k, j, hk, h, h'⟩ := map_two hw.1
      exact .inr (.inr (.inr (.inr (.inr (.inr ⟨by unfold twoOp; omega, k, j, hk, by first | exact obs_n h | exact obs_d h, by first | exact obs_n h' | exact obs_d h'⟩)))))
    · obtain ⟨k, j, hk, h, h'⟩ := map_two hw.1
      exact .inr (.inr (.inr (.inr (.inr (.inr ⟨by unfold twoOp; omega, k, j, hk, by first | exact obs_n h | exact obs_d h, by first | exact obs_n h' | exact obs_d h'⟩)))))
    · obtain ⟨k, j, hk, h, h'⟩ := map_two hw.1
      exact .inr (.inr (.inr (.inr (.inr (.inr ⟨by unfold twoOp; omega, k, j, hk, by first | exact obs_n h | exact obs_d h, by first | exact obs_n h' | exact obs_d h'⟩)))))
    · obtain ⟨k, j, hk, h, h'⟩ := map_two hw.1
      exact .inr (.inr (.inr (.inr (.inr (.inr ⟨by unfold twoOp; omega, k, j, hk, by first | exact obs_n h | exact obs_d h, by first | exact obs_n h' | exact obs_d h'⟩)))))
    · obtain ⟨k, j, hk, h, h'⟩ := map_two hw.1
      exact .inr (.inr (.inr (.inr (.inr (.inr ⟨by unfold twoOp; omega, k, j, hk, by first | exact obs_n h | exact obs_d h, by first | exact obs_n h' | exact obs_d h'⟩)))))
    · obtain ⟨k, j, hk, h, h'⟩ := map_two hw.1
      exact .inr (.inr (.inr (.inr (.inr (.inr ⟨by unfold twoOp; omega, k, j, hk, by first | exact obs_n h | exact obs_d h, by first | exact obs_n h' | exact obs_d h'⟩)))))
    · obtain ⟨k, hk, h⟩ := map_one hw.1
      exact .inr (.inr (.inr (.inl ⟨.inr rfl, k, hk, obs_b h, fun _ => h⟩)))
    · obtain ⟨k, j, hk, h, h'⟩ := map_two hw.1
      exact .inr (.inr (.inr (.inr (.inl ⟨.inl rfl, k, j, hk, h, obs_b h'⟩))))
    · obtain ⟨k, j, hk, h, h'⟩ := map_two hw.1
      exact .inr (.inr (.inr (.inr (.inl ⟨.inr rfl, k, j, hk, h, obs_b h'⟩))))
    · obtain ⟨k, j, hk, h, h'⟩ := map_two hw.1
      exact .inr (.inr (.inr (.inr (.inr (.inr ⟨by unfold twoOp; omega, k, j, hk, by first | exact obs_n h | exact obs_d h, by first | exact obs_n h' | exact obs_d h'⟩)))))
    · obtain ⟨k, j, hk, h, h'⟩ := map_two hw.1
      exact .inr (.inr (.inr (.inr (.inr (.inr ⟨by unfold twoOp; omega, k, j, hk, by first | exact obs_n h | exact obs_d h, by first | exact obs_n h' | exact obs_d h'⟩)))))
    · obtain ⟨k, j, hk, h, h'⟩ := map_two hw.1
      exact .inr (.inr (.inr (.inr (.inr (.inr ⟨by unfold twoOp; omega, k, j, hk, by first | exact obs_n h | exact obs_d h, by first | exact obs_n h' | exact obs_d h'⟩)))))
    · obtain ⟨k, j, hk, h, h'⟩ := map_two hw.1
      exact .inr (.inr (.inr (.inr (.inr (.inr ⟨by unfold twoOp; omega, k, j, hk, by first | exact obs_n h | exact obs_d h, by first | exact obs_n h' | exact obs_d h'⟩)))))
    · obtain ⟨k, j, hk, h, h'⟩ := map_two hw.1
      exact .inr (.inr (.inr (.inr (.inr (.inr ⟨by unfold twoOp; omega, k, j, hk, by first | exact obs_n h | exact obs_d h, by first | exact obs_n h' | exact obs_d h'⟩)))))
end Dn
end Go.Proofs.YtcpobnknmegkmaaGreatDoor
namespace Go.Proofs.YtcpobnknmegkmaaGreatDoor
open Go.RowKit
open Rw
set_option linter.unusedVariables false
set_option linter.unusedSimpArgs false
set_option maxRecDepth 100000
theorem live_neq (d n : Int) (w : World) : (binOp .neq 63 (.agg #[.int .i64 d, .int .i64 n]) (.agg #[.int .i64 d, .int .i64 n])).run Tryz.prog w = .ok (.bool false) w := by
  have u1 := Tryz.underlying3
  have u2 := Tryz.underlying2
  have a1 := Tryz.isAgg3
  have a2 := Tryz.isAgg2
  have z1 := Tryz.sizeOf3
  have z2 := Tryz.sizeOf2
  have hS : Tryz.prog.underlying 63 = some (.struct (Tryz.prog.fieldsOf 63)) := by kernel_rfl
  have hp : Tryz.prog.stoodInHeld 63 = false := by kernel_rfl
  rw [run_neq_struct, show (10000 : Nat) = 9999 + 1 from rfl, run_equalIn_agg w 9999 63 _ _ hS hp]
  simp only [Program.fieldsOf, Tryz.underlying63]
  go_simp
theorem live_guard (x y : Operand) (d n : Int) (w : World) : (eqGuard .neq 63 x y (.agg #[.int .i64 d, .int .i64 n]) (.agg #[.int .i64 d, .int .i64 n])).run Tryz.prog w = .ok () w :=
  run_eqGuard_agg w .neq 63 x y _ _ (by kernel_rfl)
theorem tran_neq (d n : Int) (s : ByteArray) (w : World) : (binOp .neq 49 (.agg #[.int .i64 d, .string s, .int .i64 n]) (.agg #[.int .i64 d, .string s, .int .i64 n])).run Tryz.prog w = .ok (.bool false) w := by
  have u1 := Tryz.underlying3
  have u2 := Tryz.underlying2
  have u3 := Tryz.underlying9
  have a1 := Tryz.isAgg3
  have a2 := Tryz.isAgg2
  have a3 := Tryz.isAgg9
  have z1 := Tryz.sizeOf3
  have z2 := Tryz.sizeOf2
  have z3 := Tryz.sizeOf9
  have hS : Tryz.prog.underlying 49 = some (.struct (Tryz.prog.fieldsOf 49)) := by kernel_rfl
  have hp : Tryz.prog.stoodInHeld 49 = false := by kernel_rfl
  rw [run_neq_struct, show (10000 : Nat) = 9999 + 1 from rfl, run_equalIn_agg w 9999 49 _ _ hS hp]
  simp only [Program.fieldsOf, Tryz.underlying49]
  go_simp
theorem tran_guard (x y : Operand) (d n : Int) (s : ByteArray) (w : World) : (eqGuard .neq 49 x y (.agg #[.int .i64 d, .string s, .int .i64 n]) (.agg #[.int .i64 d, .string s, .int .i64 n])).run Tryz.prog w = .ok () w :=
  run_eqGuard_agg w .neq 49 x y _ _ (by kernel_rfl)
/-- Lives, transfers as they are read. -/
def LivesSeen (W : World) (v : Value) (l : List (Int × Int)) : Prop := ∃ p c, v = .slice p l.length c ∧ l.length ≤ 100000000 ∧ ∀ (i : Nat) (x : Int × Int), l[i]? = some x → ∃ b off, p = some ⟨b, off, none⟩ ∧ b < W.heap.size ∧ W.cell? ⟨b, off + i * 2, none⟩ = some (.int .i64 x.1) ∧ W.cell? ⟨b, off + i * 2 + 1, none⟩ = some (.int .i64 x.2)
def TransSeen (W : World) (v : Value) (day : Int) (l : List (ByteArray × Int)) : Prop := ∃ p c, v = .slice p l.length c ∧ l.length ≤ 100000000 ∧ ∀ (i : Nat) (x : ByteArray × Int), l[i]? = some x → ∃ b off, p = some ⟨b, off, none⟩ ∧ b < W.heap.size ∧ W.cell? ⟨b, off + i * 3, none⟩ = some (.int .i64 day) ∧ W.cell? ⟨b, off + i * 3 + 1, none⟩ = some (.string x.1) ∧ W.cell? ⟨b, off + i * 3 + 2, none⟩ = some (.int .i64 x.2)
theorem rowcells_of {base : Nat} {W : World} {e : TypeId} {z : Nat} {v : Value} {α : Type} {f : α → List Value} (hf : ∀ x, (f x).length = z) {L : List α} (h : W.ownsRow base e z v L.length (L.flatMap f)) :
    ∃ p c, v = .slice p L.length c ∧ ∀ (i : Nat) x, L[i]? = some x → ∃ g, p = some ⟨g, 0, none⟩ ∧ g < W.heap.size ∧ ∀ (j : Nat) u, j < z → (f x)[j]? = some u → W.cell? ⟨g, 0 + i * z + j, none⟩ = some u := by
  obtain ⟨h0, ⟨rfl, hz⟩ | ⟨g, cap, cur, rfl, h2, h3, h4, h5, h6, h7⟩⟩ := h
  · exact ⟨none, 0, by rw [hz], fun i x hi => by have := (List.getElem?_eq_some_iff.1 hi).1; omega⟩
  · refine ⟨_, cap, rfl, fun i x hi => ⟨g, rfl, lt_of_block h3, fun j u hj hu => ?_⟩⟩
    have := take_at h7 ((cells_at f z hf L i x j hi hj).trans hu)
    rw [Nat.zero_add]
    simp only [World.cell?, h3]
    rw [Array.getElem?_toList] at this
    simpa using this
theorem LiveRow.seen {base : Nat} {W : World} {v : Value} {L : List (Int × Int)} (h : LiveRow base W v L) (hl : L.length ≤ 100000000) : LivesSeen W v L := by
  obtain ⟨p, c, e, hc⟩ := rowcells_of (f := live2) (fun _ => rfl) h
  refine ⟨p, c, e, hl, fun i x hi => ?_⟩
  obtain ⟨g, rfl, hg, hj⟩ := hc i x hi
  exact ⟨g, 0, rfl, hg, hj 0 _ (by omega) rfl, hj 1 _ (by omega) rfl⟩
theorem TranRow.seen {base : Nat} {W : World} {v : Value} {day : Int} {L : List (ByteArray × Int)} (h : TranRow base W v day L) (hl : L.length ≤ 100000000) : TransSeen W v day L := by
  obtain ⟨p, c, e, hc⟩ := rowcells_of (f := tran3 day) (fun _ => rfl) h
  refine ⟨p, c, e, hl, fun i x hi => ?_⟩
  obtain ⟨g, rfl, hg, hj⟩ := hc i x hi
  exact ⟨g, 0, rfl, hg, hj 0 _ (by omega) rfl, hj 1 _ (by omega) rfl, hj 2 _ (by omega) rfl⟩
theorem LivesSeen.below {W W' : World} {v : Value} {l : List (Int × Int)} (h : LivesSeen W v l) (B : Below W.heap.size W W') : LivesSeen W' v l := by
  obtain ⟨p, c, e, hl, h⟩ := h
  refine ⟨p, c, e, hl, fun i x hx => ?_⟩
  obtain ⟨b, off, e, hb, h1, h2⟩ := h i x hx
  exact ⟨b, off, e, Nat.lt_of_lt_of_le hb B.size, cell_below B hb h1, cell_below B hb h2⟩
theorem TransSeen.below {W W' : World} {v : Value} {day : Int} {l : List (ByteArray × Int)} (h : TransSeen W v day l) (B : Below W.heap.size W W') : TransSeen W' v day l := by
  obtain ⟨p, c, e, hl, h⟩ := h
  refine ⟨p, c, e, hl, fun i x hx => ?_⟩
  obtain ⟨b, off, e, hb, h1, h2, h3⟩ := h i x hx
  exact ⟨b, off, e, Nat.lt_of_lt_of_le hb B.size, cell_below B hb h1, cell_below B hb h2, cell_below B hb h3⟩
end Go.Proofs.YtcpobnknmegkmaaGreatDoor
namespace Go.Proofs.YtcpobnknmegkmaaGreatDoor
open Go.RowKit
set_option linter.unusedVariables false
set_option linter.unusedSimpArgs false
namespace Dn
open Co
def shift (d : Int) (r : R) : R := (r.1.map fun x => (x.1 + d, x.2), r.2)
def turn (r : R) : R := (r.1.map fun x => (x.1, -x.2), r.2.map fun x => (x.1, -x.2))
theorem shift_both (d : Int) (x y : R) : shift d (both x y) = both (shift d x) (shift d y) := by simp [shift, both]
theorem turn_both (x y : R) : turn (both x y) = both (turn x) (turn y) := by simp [turn, both]
theorem kidA_shift {E : Eyes} {ks : List T} {i : Nat} {k : T} (h : ks[i]? = some k) {d : Int} (ih : ∀ a f, acq E k (a + d) f = shift d (acq E k a f)) (a f : Int) : kidA E ks i (a + d) f = shift d (kidA E ks i a f) := by
  rw [kidA_at h, kidA_at h, ← ih]
  congr 1
  omega
theorem acq_shift {E : Eyes} (hE : EyesOk E) (d : Int) (t : T) : ∀ (a f : Int), t.letter = 99 → acq E t (a + d) f = shift d (acq E t a f) := by
  induction t using T.ind with | h op n s ks ih => ?_
  intro a f hx
  rcases contract_of hx with (⟨rfl, rfl⟩ | ⟨rfl, rfl⟩) | ⟨h, k, rfl, hk⟩ | ⟨rfl, o, k, rfl, ho, hk⟩ | ⟨h, k, j, rfl, hk, hj⟩ | ⟨rfl, o, k, j, rfl, ho, hk, hj⟩ | ⟨rfl, o, k, rfl, ho, hk⟩
  · rw [acq_23, acq_23]; rfl
  · rw [acq_24, acq_24]; rfl
  · have i0 := fun a f => ih k (by simp) a f hk
    rcases h with rfl | rfl
    · rw [acq_25, acq_25, kidA_shift (i := 0) rfl i0]
    · rw [acq_29, acq_29]
      split
      · rw [kidA_shift (i := 0) rfl i0]
      · rfl
  · have i1 := fun a f => ih k (by simp) a f hk
    rw [acq_26, acq_26]
    split
    · rfl
    · rw [kidA_shift (i := 1) rfl i1]
  · have i0 := fun a f => ih k (by simp) a f hk
    have i1 := fun a f => ih j (by simp) a f hj
    rcases h with rfl | rfl
    · rw [acq_27, acq_27, kidA_shift (i := 0) rfl i0, kidA_shift (i := 1) rfl i1, shift_both]
    · rw [acq_31, acq_31]
      split
      · rw [kidA_shift (i := 1) rfl i1]
      · rfl
  · have i1 := fun a f => ih k (by simp) a f hk
    have i2 := fun a f => ih j (by simp) a f hj
    rw [acq_28, acq_28]
    split
    · rfl
    · rename_i x hv
      rcases (value_ty hE o 98 x ho (by decide) (by decide) hv).1 rfl with rfl | rfl
      · rw [show ((2 : Int) - 0).toNat = 2 from rfl, kidA_shift (i := 2) rfl i2]
      · rw [show ((2 : Int) - 1).toNat = 1 from rfl, kidA_shift (i := 1) rfl i1]
  · have i1 := fun a f => ih k (by simp) a f hk
    rw [acq_30, acq_30]
    split
    · rfl
    · split
      · rw [kidA_shift (i := 1) rfl i1]
      · rfl
theorem neg_turn {f : Int} (h : NumOk f) : Num.neg f = -f := by unfold Num.neg; rw [Num.clamp_in h.1 h.2]
theorem num_turn {f : Int} (h : NumOk f) : NumOk (-f) := ⟨by have := h.2; omega, by have := h.1; omega⟩
theorem scl_zero (y : Nat) : Num.scl 0 y 1000000 = 0 := by
  unfold Num.scl
  simp [Num.up]
theorem mul_turn {f : Int} (h : NumOk f) (x : Int) : Num.mul (-f) x = -Num.mul f x := by
  unfold Num.mul
  rw [Num.clamp_neg, Int.natAbs_neg]
  by_cases h0 : Num.clamp f = 0
  · rw [h0]
    show Num.sgn _ (Num.scl 0 _ _) = -Num.sgn _ (Num.scl 0 _ _)
    rw [scl_zero]
    unfold Num.sgn
    split <;> split <;> rfl
  · by_cases h1 : Num.clamp f < 0
    · rw [decide_eq_true h1, decide_eq_false (by omega : ¬ -Num.clamp f < 0)]
      cases decide (Num.clamp x < 0)
      · show Num.sgn false _ = -Num.sgn true _
        unfold Num.sgn
        simp
      · show Num.sgn true _ = -Num.sgn false _
        unfold Num.sgn
        simp
    · rw [decide_eq_false h1, decide_eq_true (by omega : -Num.clamp f < 0)]
      cases decide (Num.clamp x < 0)
      · show Num.sgn true _ = -Num.sgn false _
        unfold Num.sgn
        simp
      · show Num.sgn false _ = -Num.sgn true _
        unfold Num.sgn
        simp
theorem kidA_turn {E : Eyes} {ks : List T} {i : Nat} {k : T} (h : ks[i]? = some k) (ih : ∀ a f, NumOk f → acq E k a (-f) = turn (acq E k a f)) (a : Int) {f : Int} (hf : NumOk f) : kidA E ks i a (-f) = turn (kidA E ks i a f) := by
  rw [kidA_at h, kidA_at h, ih _ _ hf]
theorem acq_turn {E : Eyes} (hE : EyesOk E) (t : T) : ∀ (a f : Int), t.letter = 99 → NumOk f → acq E t a (-f) = turn (acq E t a f) := by
  induction t using T.ind with | h op n s ks ih => ?_
  intro a f hx hf
  rcases contract_of hx with (⟨rfl, rfl⟩ | ⟨rfl, rfl⟩) | ⟨h, k, rfl, hk⟩ | ⟨rfl, o, k, rfl, ho, hk⟩ | ⟨h, k, j, rfl, hk, hj⟩ | ⟨rfl, o, k, j, rfl, ho, hk, hj⟩ | ⟨rfl, o, k, rfl, ho, hk⟩
  · rw [acq_23, acq_23]; rfl
  · rw [acq_24, acq_24]
    by_cases h0 : f = 0
    · subst h0; rfl
    · rw [if_neg h0, if_neg (by omega)]
      rfl
  · have i0 := fun a f hf => ih k (by simp) a f hk hf
    rcases h with rfl | rfl
    · rw [acq_25, acq_25, neg_turn hf, neg_turn (num_turn hf), kidA_turn (i := 0) rfl i0 a (num_turn hf)]
    · rw [acq_29, acq_29]
      split
      · rw [kidA_turn (i := 0) rfl i0 a hf]
      · rfl
  · have i1 := fun a f hf => ih k (by simp) a f hk hf
    rw [acq_26, acq_26]
    split
    · rfl
    · rw [mul_turn hf, kidA_turn (i := 1) rfl i1 a (num_mul _ _)]
  · have i0 := fun a f hf => ih k (by simp) a f hk hf
    have i1 := fun a f hf => ih j (by simp) a f hj hf
    rcases h with rfl | rfl
    · rw [acq_27, acq_27, kidA_turn (i := 0) rfl i0 a hf, kidA_turn (i := 1) rfl i1 a hf, turn_both]
    · rw [acq_31, acq_31]
      split
      · rw [kidA_turn (i := 1) rfl i1 a hf]
      · rfl
  · have i1 := fun a f hf => ih k (by simp) a f hk hf
    have i2 := fun a f hf => ih j (by simp) a f hj hf
    rw [acq_28, acq_28]
    split
    · rfl
    · rename_i x hv
      rcases (value_ty hE o 98 x ho (by decide) (by decide) hv).1 rfl with rfl | rfl
      · rw [show ((2 : Int) - 0).toNat = 2 from rfl, kidA_turn (i := 2) rfl i2 a hf]
      · rw [show ((2 : Int) - 1).toNat = 1 from rfl, kidA_turn (i := 1) rfl i1 a hf]
  · have i1 := fun a f hf => ih k (by simp) a f hk hf
    rw [acq_30, acq_30]
    split
    · rfl
    · split
      · rw [kidA_turn (i := 1) rfl i1 a hf]
      · rfl
/-- Eyes that see the same of days that are not ahead. -/
structure Alike (E E' : Eyes) : Prop where
  day : E.day = E'.day
  feed : ∀ s n, 0 ≤ n → E.feed s n = E'.feed s n
theorem ahead_kids {op n : Int} {s : ByteArray} {ks : List T} (h : (T.mk op n s ks).ahead = false) : (op = 4 → 0 ≤ n) ∧ ∀ k ∈ ks, k.ahead = false := by
  unfold T.ahead at h ⊢
  rw [List.any_eq_false] at h
  refine ⟨fun e => ?_, fun k hk => ?_⟩
  · have := h (op, n) (by rw [T.nodes]; exact List.mem_cons_self ..)
    subst e
    simp at this
    exact this
  · rw [List.any_eq_false]
    intro x hx
    exact h x (by rw [T.nodes]; exact List.mem_cons_of_mem _ (mem_nodess.2 ⟨k, hk, hx⟩))
theorem value_alike {E E' : Eyes} (h : Alike E E') (t : T) : t.ahead = false → value E t = value E' t := by
  induction t using T.ind with | h op n s ks ih => ?_
  intro ha
  obtain ⟨h4, hk⟩ := ahead_kids ha
  have hv : values E ks = values E' ks := by
    rw [values_map, values_map]
    exact List.map_congr_left fun k hm => ih k hm (hk k hm)
  rw [value_eq, value_eq, hv]
  unfold val1
  by_cases e : op = 4
  · subst e
    simp only [Int.reduceEq, or_self, if_false, ↓reduceIte]
    exact h.feed s n (h4 rfl)
  · rw [if_neg e, if_neg e, h.day]
theorem acq_alike {E E' : Eyes} (h : Alike E E') (t : T) : t.ahead = false → acq E t = acq E' t := by
  induction t using T.ind with | h op n s ks ih => ?_
  intro ha
  obtain ⟨h4, hk⟩ := ahead_kids ha
  have hv : values E ks = values E' ks := by
    rw [values_map, values_map]
    exact List.map_congr_left fun k hm => value_alike h k (hk k hm)
  have hq : acqs E ks = acqs E' ks := by
    rw [acqs_map, acqs_map]
    exact List.map_congr_left fun k hm => ih k hm (hk k hm)
  funext a f
  rw [acq_eq, acq_eq, hv, hq]
  unfold acq1
  rw [h.day]
theorem kidA_alike {E E' : Eyes} (h : Alike E E') {ks : List T} (hk : ∀ k ∈ ks, k.ahead = false) (i : Nat) (a f : Int) : kidA E ks i a f = kidA E' ks i a f := by
  have hq : acqs E ks = acqs E' ks := by
    rw [acqs_map, acqs_map]
    exact List.map_congr_left fun k hm => acq_alike h k (hk k hm)
  unfold kidA
  rw [hq]
theorem pre_ahead (t : T) : t.ahead = false → ∀ u ∈ pre t, u.ahead = false := by
  induction t using T.ind with | h op n s ks ih => ?_
  intro ha u hu
  obtain ⟨-, hk⟩ := ahead_kids ha
  rw [pre] at hu
  rcases List.mem_cons.1 hu with rfl | hu
  · exact ha
  · have : ∀ l : List T, (∀ k ∈ l, ∀ u ∈ pre k, u.ahead = false) → ∀ u ∈ pres l, u.ahead = false := by
      intro l
      induction l with
      | nil => intro _ u hu; cases hu
      | cons a r ih2 =>
        intro h u hu
        rw [pres] at hu
        rcases List.mem_append.1 hu with hu | hu
        · exact h a (List.mem_cons_self ..) u hu
        · exact ih2 (fun k hk => h k (List.mem_cons_of_mem _ hk)) u hu
    exact this ks (fun k hk' => ih k hk' (hk k hk')) u hu
theorem default_ahead : (default : T).ahead = false := rfl
theorem step_alike {E E' : Eyes} (h : Alike E E') {t : T} (ha : t.ahead = false) (lab : ByteArray) (wh : Int) : ∀ l, stepAll E lab wh (pre t) l = stepAll E' lab wh (pre t) l
  | [] => rfl
  | x :: r => by
    rw [stepAll, stepAll, step_alike h ha lab wh r]
    congr 1
    have hu : ((pre t).getD x.1.toNat default).ahead = false := by
      rw [List.getD_eq_getElem?_getD]
      cases hg : (pre t)[x.1.toNat]? with
      | none => exact default_ahead
      | some u => exact pre_ahead t ha u (List.mem_of_getElem? hg)
    generalize (pre t).getD x.1.toNat default = u at *
    unfold stepOne
    obtain ⟨op, n, s, ks⟩ := u
    simp only [T.op, T.s, T.n, T.ks]
    rw [h.day, acq_alike h _ hu, kidA_alike h (ahead_kids hu).2]
end Dn
end Go.Proofs.YtcpobnknmegkmaaGreatDoor
namespace Go.Proofs.YtcpobnknmegkmaaGreatDoor
open Go.RowKit
open Rw
set_option linter.unusedVariables false
set_option linter.unusedSimpArgs false
set_option maxRecDepth 100000
namespace Fd
theorem lower_ex {l : List (Int × Int)} (h : Rise l) (d : Int) : ∀ n, n ≤ l.length → ∃ i, i ≤ n ∧ (∀ k, k < i → decide ((stampAt l k).1 < d) = true) ∧ ∀ k, i ≤ k → k < n → decide ((stampAt l k).1 < d) = false
  | 0, _ => ⟨0, Nat.le_refl _, fun k hk => by omega, fun k _ hk => by omega⟩
  | n + 1, hn => by
    cases hp : decide ((stampAt l n).1 < d) with
    | true => exact ⟨n + 1, Nat.le_refl _, fun k hk => by
        by_cases e : k = n
        · subst e; exact hp
        · exact day_before h rfl hp (by omega) (by omega), fun k h1 h2 => by omega⟩
    | false =>
      obtain ⟨i, h0, h1, h2⟩ := lower_ex h d n (by omega)
      refine ⟨i, by omega, h1, fun k h3 h4 => ?_⟩
      by_cases e : k = n
      · subst e; exact hp
      · exact h2 k h3 (by omega)
theorem lower_split {l : List (Int × Int)} (h : Rise l) (d : Int) : lower l d ≤ l.length ∧ (∀ k, k < lower l d → (stampAt l k).1 < d) ∧ ∀ k, lower l d ≤ k → k < l.length → d ≤ (stampAt l k).1 := by
  obtain ⟨i, h0, h1, h2⟩ := lower_ex h d l.length (Nat.le_refl _)
  have e : lower l d = i := countP_here _ i _ h0 h1 h2
  rw [e]
  refine ⟨h0, fun k hk => of_decide_eq_true (h1 k hk), fun k h3 h4 => ?_⟩
  have := of_decide_eq_false (h2 k h3 h4)
  omega
theorem upto_here {l : List (Int × Int)} (h : Rise l) (d : Int) : upto l d = if foundI l (lower l d) d = true then lower l d + 1 else lower l d := by
  obtain ⟨h0, h1, h2⟩ := lower_split h d
  generalize lower l d = i at *
  unfold upto foundI
  by_cases hi : i < l.length
  · rw [stampAt_some hi]
    have hd := h2 i (Nat.le_refl _) hi
    by_cases e : (stampAt l i).1 = d
    · have hc : (cmpI (stampAt l i).1 d == 0) = true := by rw [e]; unfold cmpI; simp
      show _ = if (cmpI (stampAt l i).1 d == 0) = true then _ else _
      rw [if_pos hc]
      refine countP_here _ _ _ hi (fun k hk => ?_) (fun k h3 h4 => ?_)
      · rw [Bool.not_eq_true', decide_eq_false_iff_not]
        by_cases e2 : k = i
        · subst e2; omega
        · have := h1 k (by omega); omega
      · rw [Bool.not_eq_false', decide_eq_true_eq]
        have := h.2 k i (by omega) h4
        omega
    · have hc : ¬ (cmpI (stampAt l i).1 d == 0) = true := by unfold cmpI; rw [if_neg (by omega), if_pos (by omega)]; decide
      show _ = if (cmpI (stampAt l i).1 d == 0) = true then _ else _
      rw [if_neg hc]
      refine countP_here _ _ _ h0 (fun k hk => ?_) (fun k h3 h4 => ?_)
      · rw [Bool.not_eq_true', decide_eq_false_iff_not]
        have := h1 k hk; omega
      · rw [Bool.not_eq_false', decide_eq_true_eq]
        by_cases e2 : k = i
        · subst e2; omega
        · have := h.2 k i (by omega) h4; omega
  · obtain rfl : i = l.length := by omega
    rw [List.getElem?_eq_none (Nat.le_refl _), if_neg (by exact Bool.false_ne_true)]
    refine countP_here _ _ _ h0 (fun k hk => ?_) (fun k h3 h4 => by omega)
    rw [Bool.not_eq_true', decide_eq_false_iff_not]
    have := h1 k hk; omega
theorem found_name {F : List Feed} {s : ByteArray} {f : Feed} (h : F[place F s]? = some f) : foundS F (place F s) s = true ↔ f.1 = s := by
  unfold foundS
  rw [h]
  show (cmpS f.1 s == 0) = true ↔ _
  rw [beq_iff_eq]
  unfold cmpS
  constructor
  · intro e
    cases h1 : lt f.1 s with
    | true => rw [h1] at e; simp at e
    | false =>
      cases h2 : lt s f.1 with
      | true => rw [h1, h2] at e; simp at e
      | false =>
        have := less_eq h1 h2
        rw [ByteArray.toList_eq, ByteArray.toList_eq] at this
        exact ba_ext this
  · rintro rfl
    rw [lt_irrefl]
    rfl
theorem rise_of {F : List Feed} (h : Ok F) {i : Nat} {f : Feed} (hi : F[i]? = some f) : Rise f.2 := ⟨(h.2 i f hi).len, risesK h hi⟩
theorem tells_not {F : List Feed} {s : ByteArray} (h : foundS F (place F s) s = false) (day ago : Int) : tells F day s ago = none := by
  cases hp : F[place F s]? with
  | none => exact tells_none hp day ago
  | some f =>
    refine tells_other hp (fun e => ?_) day ago
    rw [(found_name hp).2 e] at h
    cases h
theorem tells_on {F : List Feed} (hok : Ok F) {s : ByteArray} {f : Feed} (hp : F[place F s]? = some f) (h : foundS F (place F s) s = true) {day ago : Int} (hf : foundI f.2 (lower f.2 (day - ago)) (day - ago) = true) :
    tells F day s ago = some (stampAt f.2 (lower f.2 (day - ago))).2 :=
  tells_some hp ((found_name hp).1 h) (by rw [upto_here (rise_of hok hp), if_pos hf])
theorem tells_zero {F : List Feed} (hok : Ok F) {s : ByteArray} {f : Feed} (hp : F[place F s]? = some f) (h : foundS F (place F s) s = true) {day ago : Int} (hf : foundI f.2 (lower f.2 (day - ago)) (day - ago) = false) (hl : lower f.2 (day - ago) = 0) :
    tells F day s ago = none :=
  tells_early hp ((found_name hp).1 h) (by rw [upto_here (rise_of hok hp), if_neg (by rw [hf]; decide), hl])
theorem tells_off {F : List Feed} (hok : Ok F) {s : ByteArray} {f : Feed} (hp : F[place F s]? = some f) (h : foundS F (place F s) s = true) {day ago : Int} (hf : foundI f.2 (lower f.2 (day - ago)) (day - ago) = false) {k : Nat} (hl : lower f.2 (day - ago) = k + 1) :
    tells F day s ago = some (stampAt f.2 k).2 :=
  tells_some hp ((found_name hp).1 h) (by rw [upto_here (rise_of hok hp), if_neg (by rw [hf]; decide), hl])
end Fd
def optOut (o : Option Int) : Value := match o with | some n => .tuple #[.int .i64 n, .bool true] | none => .tuple #[.int .i64 0, .bool false]
set_option maxHeartbeats 4000000 in
theorem dfeed_any (F : List Fd.Feed) (hok : Fd.Ok F) (day ago : Int) (name : ByteArray) (hd : 0 ≤ day ∧ day ≤ 73048) (ha : -3660 ≤ ago ∧ ago ≤ 3660) (vf : Value) (w : World) (hF : FeedsAt w vf F) :
    Calls Tryz.prog 37 #[.agg #[.int .i64 day, vf], .string name, .int .i64 ago] w (Gives (optOut (Fd.tells F day name ago)) w) := by
  have HF := hid' hF
  have HOK := hid' hok
  obtain ⟨vp, vc, rfl, hvl, -⟩ := hF
  have hFl : F.length ≤ 64 := hok.1
  have hdw : IntKind.i64.wrap (day - ago) = day - ago := IntWalk.i64_in _ (by omega)
  have haw : IntKind.i64.wrap ago = ago := IntWalk.i64_in _ (by omega)
  have HB := hid' ((Below.refl w.heap.size w).alloc (Nat.le_refl _) (.cells #[.int .i64 day, .slice vp F.length vc] 52))
  have HC := hid' (heap_alloc_new w (.cells #[.int .i64 day, .slice vp F.length vc] 52))
  have HBS := hid' (fun W (b : Below w.heap.size w W) => bsFeeds_any F hok name _ W (HF.out.below b))
  obtain ⟨fnd, hfnd⟩ : ∃ fnd, Hid (foundS F (Fd.place F name) name = fnd) := ⟨_, hid' rfl⟩
  obtain ⟨i, hi⟩ : ∃ i, Hid (Fd.place F name = i) := ⟨_, hid' rfl⟩
  obtain ⟨O, hO⟩ : ∃ O, Hid (Fd.tells F day name ago = O) := ⟨_, hid' rfl⟩
  rw [hO.out]
  rw [hfnd.out, hi.out] at HBS
  clear hok hd ha hvl
  go_enter Tryz.func37, Tryz.ntmps37
  go_upto_region 1 with (fail)
  generalize World.alloc _ _ = w1 at *
  have c0 := bcells HC.out 0 _ rfl
  have c1 := bcells HC.out 1 _ rfl
  go_upto_region 2 with (first | (go_at_call 50; refine (HBS.out _ HB.out).mono ?_; rintro e w2 ⟨rfl, b2⟩))
  have HB2 := hid' (HB.out.trans (b2.mono HB.out.size))
  have HC2 := hid' (box_below b2 HC.out)
  clear b2 c0 c1
  cases fnd with
  | false =>
    have e := hid' (show O = none by rw [← hO.out]; exact Fd.tells_not hfnd.out day ago)
    go_wp2_with fail
    go_ret2
    exact ⟨by rw [e.out]; rfl, HB2.out⟩
  | true =>
    have hlt : i < F.length := by
      rw [← hi.out]
      have h := hfnd.out
      unfold foundS at h
      split at h
      · cases h
      · rename_i f hf; exact (List.getElem?_eq_some_iff.1 hf).1
    obtain ⟨x, hx⟩ : ∃ x, F[i]? = some x := ⟨_, List.getElem?_eq_getElem hlt⟩
    have HX := hid' (show F[Fd.place F name]? = some x by rw [hi.out]; exact hx)
    have HR := hid' (Fd.rise_of HOK.out hx)
    obtain ⟨p', c', e', -, hfc⟩ := HF.out.below HB2.out
    obtain ⟨fb, fo, sv, e2, hfb, ⟨x0, x1⟩, hst, -⟩ := hfc i x hx
    cases e'
    subst e2
    have HST := hid' hst
    obtain ⟨sp, sc, rfl, hsl, -⟩ := hst
    have hlen := HR.out.1
    have j1 : (0 : Int) ≤ (i : Int) := by omega
    have j2 : (i : Int) < (F.length : Int) := by omega
    have c0 := bcells HC2.out 0 _ rfl
    have c1 := bcells HC2.out 1 _ rfl
    have HBT := hid' (fun W (b : Below w2.heap.size w2 W) => bsStamps_any x.2 HR.out (day - ago) _ W (HST.out.below b))
    obtain ⟨fn2, hf2⟩ : ∃ fnd, Hid (foundI x.2 (Fd.lower x.2 (day - ago)) (day - ago) = fnd) := ⟨_, hid' rfl⟩
    obtain ⟨L, hL⟩ : ∃ i, Hid (Fd.lower x.2 (day - ago) = i) := ⟨_, hid' rfl⟩
    rw [hf2.out, hL.out] at HBT
    have HLE := hid' (show L ≤ x.2.length by rw [← hL.out]; exact (Fd.lower_split HR.out _).1)
    clear hfc hx x0 hsl hfb hlt
    go_upto_region 6 with (first | (go_at_call 53; refine (HBT.out _ (Below.refl _ _)).mono ?_; rintro e w3 ⟨rfl, b3⟩))
    have HB3 := hid' (HB2.out.trans (b3.mono HB2.out.size))
    have HS3 := hid' (HST.out.below b3)
    clear b3 c0 c1 x1
    obtain ⟨p', c', e', -, hsc⟩ := HS3.out
    cases e'
    have HSC := hid' hsc
    clear hsc
    cases fn2 with
    | true =>
      have hlt : L < x.2.length := by
        rw [← hL.out]
        have h := hf2.out
        unfold foundI at h
        split at h
        · cases h
        · rename_i f hf; exact (List.getElem?_eq_some_iff.1 hf).1
      have e := hid' (show O = some (Fd.stampAt x.2 L).2 by rw [← hO.out, ← hL.out]; exact Fd.tells_on HOK.out HX.out hfnd.out hf2.out)
      obtain ⟨b, off, rfl, -, ⟨y0, y1⟩, -, -⟩ := HSC.out L _ (Fd.stampAt_some hlt)
      have k1 : (0 : Int) ≤ (L : Int) := by omega
      have k2 : (L : Int) < (x.2.length : Int) := by omega
      clear y0 hlt
      go_wp2_with fail
      go_ret2
      exact ⟨by rw [e.out]; rfl, HB3.out⟩
    | false =>
      match L, hL, HLE with
      | 0, hL, HLE =>
        have e := hid' (show O = none by rw [← hO.out]; exact Fd.tells_zero HOK.out HX.out hfnd.out hf2.out hL.out)
        go_wp2_with fail
        go_ret2
        exact ⟨by rw [e.out]; rfl, HB3.out⟩
      | k + 1, hL, HLE =>
        have hlt : k < x.2.length := HLE.out
        have e := hid' (show O = some (Fd.stampAt x.2 k).2 by rw [← hO.out]; exact Fd.tells_off HOK.out HX.out hfnd.out hf2.out hL.out)
        obtain ⟨b, off, rfl, -, ⟨y0, y1⟩, -, -⟩ := HSC.out k _ (Fd.stampAt_some hlt)
        have g0 : (((k + 1 : Nat) : Int) == 0) = false := by rw [beq_eq_false_iff_ne]; omega
        have v1 : IntKind.i64.wrap (((k + 1 : Nat) : Int) - 1) = (k : Int) := by rw [IntWalk.i64_in _ (by omega)]; omega
        have k1 : (0 : Int) ≤ (k : Int) := by omega
        have k2 : (k : Int) < (x.2.length : Int) := by omega
        clear y0 hlt
        go_wp2_with fail
        go_ret2
        exact ⟨by rw [e.out]; rfl, HB3.out⟩
end Go.Proofs.YtcpobnknmegkmaaGreatDoor
