/- Proved (plain): bytecode that runs: its runs do not hang on what came ahead of them, but for the limits (Vm.parts). -/
import Derived.Test.YtbpcgcmlpgdmbaaDoorGenPlain
namespace Go.Proofs.YtbpcgcmlpgdmbaaDoor
set_option linter.unusedVariables false
set_option linter.unusedSimpArgs false
namespace Vm
open Gen
/-- What the machine reckons with. -/
structure Env where
  day : Int
  now : Int → Int
  feed : ByteArray → Int → Option Int
  rk : Int → Int → Int → Int
  mul : Int → Int → Int
  neg : Int → Int
  clamp : Int → Int
structure St where
  holds : List (Int × Int)
  out : List (ByteArray × Int)
  steps : Nat
  over : Bool
def reg (r : List Int) (a : Int) : Int := (r[a.toNat]?).getD 0
def setReg (r : List Int) (a v : Int) : List Int := r.set a.toNat v
def zeros : List Int := List.replicate 256 0
/-- What an instruction does. -/
inductive Act where
  | stop
  | next (at' : Int) (f : Int) (r : List Int)
  | pay
  | hold
  | call (entry : Int)
def jumps (E : Env) (x : Ix) (b : Int) : Bool :=
  if x.op = 20 then true else if x.op = 19 then decide (b = 0) else if x.op = 21 then decide (x.n < E.day) else if x.op = 22 then decide (E.day < x.n) else false
def act (c : Cd) (E : Env) (x : Ix) (a f : Int) (r : List Int) : Act :=
  if x.op = 30 then .stop
  else if x.op = 1 then .next (a + 1) f (setReg r x.a x.n)
  else if x.op = 3 then .next (a + 1) f (setReg r x.a (E.now x.n))
  else if x.op = 2 then (match E.feed x.s x.n with | none => .next x.to f r | some n => .next (a + 1) f (setReg r x.a n))
  else if x.op = 20 ∨ x.op = 19 ∨ x.op = 21 ∨ x.op = 22 then .next (if jumps E x (reg r x.b) then x.to else a + 1) f r
  else if x.op = 23 then .next (a + 1) (E.mul f (reg r x.b)) r
  else if x.op = 24 then .next (a + 1) (E.neg f) r
  else if x.op = 25 then .next (a + 1) f (setReg r x.a f)
  else if x.op = 26 then .next (a + 1) (E.clamp (reg r x.b)) r
  else if x.op = 27 then (if f = 0 then .next (a + 1) f r else .pay)
  else if x.op = 28 then .hold
  else if x.op = 29 then .call (entryAt c x.n)
  else .next (a + 1) f (setReg r x.a (E.rk x.op (reg r x.b) (reg r x.c)))
def insAt (c : Cd) (a : Int) : Ix := (c.ins[a.toNat]?).getD ⟨30, 0, 0, 0, 0, ⟨#[]⟩, 0⟩
def runF (c : Cd) (E : Env) : Nat → Int → Int → List Int → St → St
  | 0, _, _, _, st => ⟨st.holds, st.out, st.steps + 1, true⟩
  | k + 1, a, f, r, st =>
    if 65536 < st.steps + 1 ∨ st.over = true then ⟨st.holds, st.out, st.steps + 1, true⟩
    else match act c E (insAt c a) a f r with
      | .stop => ⟨st.holds, st.out, st.steps + 1, false⟩
      | .next a' f' r' => runF c E k a' f' r' ⟨st.holds, st.out, st.steps + 1, false⟩
      | .pay => runF c E k (a + 1) f r ⟨st.holds, st.out ++ [((insAt c a).s, f)], st.steps + 1, false⟩
      | .hold => runF c E k (a + 1) f r ⟨st.holds ++ [((insAt c a).n, f)], st.out, st.steps + 1, decide (250 < st.holds.length + 1)⟩
      | .call e => runF c E k (a + 1) f r (runF c E k e f zeros ⟨st.holds, st.out, st.steps + 1, false⟩)
theorem steps_le (c : Cd) (E : Env) : ∀ (k : Nat) (a f : Int) (r : List Int) (st : St), st.steps + 1 ≤ (runF c E k a f r st).steps := by
  intro k
  induction k with
  | zero => intro a f r st; exact Nat.le_refl _
  | succ k ih =>
    intro a f r st
    unfold runF
    split
    · exact Nat.le_refl _
    · split
      · exact Nat.le_refl _
      · refine Nat.le_trans ?_ (ih _ _ _ _)
        simp only; omega
      · refine Nat.le_trans ?_ (ih _ _ _ _)
        simp only; omega
      · refine Nat.le_trans ?_ (ih _ _ _ _)
        simp only; omega
      · rename_i e _
        have h1 := ih e f zeros ⟨st.holds, st.out, st.steps + 1, false⟩
        have h2 := ih (a + 1) f r (runF c E k e f zeros ⟨st.holds, st.out, st.steps + 1, false⟩)
        simp only at h1
        omega
/-- More fuel than is wanted changes nothing. -/
theorem runF_eq (c : Cd) (E : Env) : ∀ (k k' : Nat) (a f : Int) (r : List Int) (st : St), 65538 ≤ k + st.steps → 65538 ≤ k' + st.steps → runF c E k a f r st = runF c E k' a f r st := by
  intro k
  induction k with
  | zero =>
    intro k' a f r st h h'
    cases k' with
    | zero => rfl
    | succ k' => rw [runF, runF, if_pos (.inl (by omega))]
  | succ k ih =>
    intro k' a f r st h h'
    cases k' with
    | zero => rw [runF, runF, if_pos (.inl (by omega))]
    | succ k' =>
      rw [runF, runF]
      split
      · rfl
      · split
        · rfl
        · exact ih k' _ _ _ _ (by simp only; omega) (by simp only; omega)
        · exact ih k' _ _ _ _ (by simp only; omega) (by simp only; omega)
        · exact ih k' _ _ _ _ (by simp only; omega) (by simp only; omega)
        · rename_i e _
          have h1 := steps_le c E k' e f zeros ⟨st.holds, st.out, st.steps + 1, false⟩
          simp only at h1
          rw [ih k' e f zeros ⟨st.holds, st.out, st.steps + 1, false⟩ (by simp only; omega) (by simp only; omega)]
          exact ih k' _ _ _ _ (by omega) (by omega)
def run (c : Cd) (E : Env) (a f : Int) (r : List Int) (st : St) : St := runF c E (65538 - st.steps) a f r st
theorem runF_run (c : Cd) (E : Env) {k : Nat} {a f : Int} {r : List Int} {st : St} (h : 65538 ≤ k + st.steps) : runF c E k a f r st = run c E a f r st :=
  runF_eq c E k _ a f r st h (by omega)
/-- One instruction. -/
theorem run_step (c : Cd) (E : Env) (a f : Int) (r : List Int) (st : St) : run c E a f r st =
    if 65536 < st.steps + 1 ∨ st.over = true then ⟨st.holds, st.out, st.steps + 1, true⟩
    else match act c E (insAt c a) a f r with
      | .stop => ⟨st.holds, st.out, st.steps + 1, false⟩
      | .next a' f' r' => run c E a' f' r' ⟨st.holds, st.out, st.steps + 1, false⟩
      | .pay => run c E (a + 1) f r ⟨st.holds, st.out ++ [((insAt c a).s, f)], st.steps + 1, false⟩
      | .hold => run c E (a + 1) f r ⟨st.holds ++ [((insAt c a).n, f)], st.out, st.steps + 1, decide (250 < st.holds.length + 1)⟩
      | .call e => run c E (a + 1) f r (run c E e f zeros ⟨st.holds, st.out, st.steps + 1, false⟩) := by
  rw [← runF_run c E (k := 65538 + 1) (by omega)]
  rw [runF]
  split
  · rfl
  · split
    · rfl
    · exact runF_run c E (by omega)
    · exact runF_run c E (by omega)
    · exact runF_run c E (by omega)
    · rw [runF_run c E (by omega), runF_run c E (by omega)]
/-- Two states with the same behind different beginnings. -/
def Alike (H : List (Int × Int)) (O : List (ByteArray × Int)) (s : Nat) (H2 : List (Int × Int)) (O2 : List (ByteArray × Int)) (s2 : Nat) (x y : St) : Prop :=
  ∃ dh do' ds, x = ⟨H ++ dh, O ++ do', s + ds, false⟩ ∧ y = ⟨H2 ++ dh, O2 ++ do', s2 + ds, false⟩
theorem over_stays (c : Cd) (E : Env) : ∀ (k : Nat) (a f : Int) (r : List Int) (st : St), st.over = true → (runF c E k a f r st).over = true := by
  intro k a f r st h
  cases k with
  | zero => rfl
  | succ k => rw [runF, if_pos (.inr h)]
theorem alike_run (c : Cd) (E : Env) (H : List (Int × Int)) (O : List (ByteArray × Int)) (s : Nat) (H2 : List (Int × Int)) (O2 : List (ByteArray × Int)) (s2 : Nat) (hH : H2.length ≤ H.length) (hs : s2 ≤ s) :
    ∀ (k k' : Nat) (a f : Int) (r : List Int) (x y : St), k ≤ k' → Alike H O s H2 O2 s2 x y → (runF c E k a f r x).over = false → Alike H O s H2 O2 s2 (runF c E k a f r x) (runF c E k' a f r y) := by
  intro k
  induction k with
  | zero => intro k' a f r x y _ _ h; cases h
  | succ k ih =>
    intro k' a f r x y hk hxy h
    obtain ⟨k', rfl⟩ : ∃ j, k' = j + 1 := ⟨k' - 1, by omega⟩
    obtain ⟨dh, do', ds, rfl, rfl⟩ := hxy
    rw [runF] at h ⊢
    rw [runF]
    by_cases hl : 65536 < s + ds + 1
    · rw [if_pos (.inl hl)] at h; cases h
    · rw [if_neg (by simp; omega)] at h
      rw [if_neg (by simp; omega), if_neg (by simp; omega)]
      cases hact : act c E (insAt c a) a f r with
      | stop => exact ⟨dh, do', ds + 1, rfl, rfl⟩
      | next a' f' r' =>
        rw [hact] at h
        exact ih k' a' f' r' _ _ (by omega) ⟨dh, do', ds + 1, rfl, rfl⟩ h
      | pay =>
        rw [hact] at h
        exact ih k' _ f r _ _ (by omega) ⟨dh, do' ++ [((insAt c a).s, f)], ds + 1, by simp [Nat.add_assoc], by simp [Nat.add_assoc]⟩ h
      | hold =>
        rw [hact] at h
        simp only at h ⊢
        by_cases hov : 250 < (H ++ dh).length + 1
        · rw [decide_eq_true hov] at h
          rw [over_stays c E k _ f r _ rfl] at h
          cases h
        · have hov2 : ¬ 250 < (H2 ++ dh).length + 1 := by rw [List.length_append] at *; omega
          rw [decide_eq_false hov] at h ⊢
          rw [decide_eq_false hov2]
          exact ih k' _ f r _ _ (by omega) ⟨dh ++ [((insAt c a).n, f)], do', ds + 1, by simp [Nat.add_assoc], by simp [Nat.add_assoc]⟩ h
      | call e =>
        rw [hact] at h
        simp only at h ⊢
        cases hm : (runF c E k e f zeros ⟨H ++ dh, O ++ do', s + ds + 1, false⟩).over with
        | true => rw [over_stays c E k _ f r _ hm] at h; cases h
        | false =>
          exact ih k' _ f r _ _ (by omega) (ih k' e f zeros _ _ (by omega) ⟨dh, do', ds + 1, rfl, rfl⟩ hm) h
/-- Holds one behind the other. -/
def all (c : Cd) (E : Env) (entry : Int → Int) (l : List (Int × Int)) (st : St) : St := l.foldl (fun st h => run c E (entry h.1) h.2 zeros st) st
def st0 : St := ⟨[], [], 0, false⟩
theorem all_over (c : Cd) (E : Env) (entry : Int → Int) (l : List (Int × Int)) : ∀ st : St, st.over = true → (all c E entry l st).over = true := by
  induction l with
  | nil => intro st h; exact h
  | cons x t ih => intro st h; exact ih _ (over_stays c E _ _ _ _ st h)
theorem all_alike (c : Cd) (E : Env) (entry : Int → Int) (H : List (Int × Int)) (O : List (ByteArray × Int)) (s : Nat) (H2 : List (Int × Int)) (O2 : List (ByteArray × Int)) (s2 : Nat) (hH : H2.length ≤ H.length) (hs : s2 ≤ s) (l : List (Int × Int)) :
    ∀ x y : St, Alike H O s H2 O2 s2 x y → (all c E entry l x).over = false → Alike H O s H2 O2 s2 (all c E entry l x) (all c E entry l y) := by
  induction l with
  | nil => intro x y h _; exact h
  | cons z t ih =>
    intro x y h ho
    have hx : (run c E (entry z.1) z.2 zeros x).over = false := by
      cases hm : (run c E (entry z.1) z.2 zeros x).over with
      | false => rfl
      | true =>
        have := all_over c E entry t _ hm
        rw [show (all c E entry (z :: t) x).over = (all c E entry t (run c E (entry z.1) z.2 zeros x)).over from rfl, this] at ho
        cases ho
    refine ih _ _ ?_ ho
    obtain ⟨dh, do', ds, rfl, rfl⟩ := h
    exact alike_run c E H O s H2 O2 s2 hH hs _ _ _ _ _ _ _ (by simp only; omega) ⟨dh, do', ds, rfl, rfl⟩ hx
/-- **VmParts, plainly.** -/
theorem parts (c : Cd) (E : Env) (entry : Int → Int) (l m : List (Int × Int)) (h : (all c E entry (l ++ m) st0).over = false) :
    (all c E entry l st0).over = false ∧ (all c E entry m st0).over = false ∧
    (all c E entry (l ++ m) st0).holds = (all c E entry l st0).holds ++ (all c E entry m st0).holds ∧
    (all c E entry (l ++ m) st0).out = (all c E entry l st0).out ++ (all c E entry m st0).out ∧
    (all c E entry (l ++ m) st0).steps = (all c E entry l st0).steps + (all c E entry m st0).steps := by
  have e : all c E entry (l ++ m) st0 = all c E entry m (all c E entry l st0) := List.foldl_append ..
  rw [e] at h ⊢
  have ha : (all c E entry l st0).over = false := by
    cases hm : (all c E entry l st0).over with
    | false => rfl
    | true => rw [all_over c E entry m _ hm] at h; cases h
  generalize all c E entry l st0 = x at *
  obtain ⟨H, O, s, o⟩ := x
  obtain rfl : o = false := ha
  obtain ⟨dh, do', ds, e1, e2⟩ := all_alike c E entry H O s [] [] 0 (Nat.zero_le _) (Nat.zero_le _) m ⟨H, O, s, false⟩ st0 ⟨[], [], 0, by simp, by simp [st0]⟩ h
  rw [e1, e2]
  exact ⟨rfl, rfl, by simp, by simp, by simp⟩
end Vm
end Go.Proofs.YtbpcgcmlpgdmbaaDoor
