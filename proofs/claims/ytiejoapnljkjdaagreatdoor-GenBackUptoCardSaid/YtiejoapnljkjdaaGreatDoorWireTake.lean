/- Proved: what wire's own reader of bits says, in plain words. No program in sight. -/
import Derived.Test.YtiejoapnljkjdaaGreatDoorWirePlain
namespace Go.Proofs.YtiejoapnljkjdaaGreatDoor
set_option linter.unusedVariables false
set_option linter.unusedSimpArgs false
namespace Wire
/-- The bits alone: the last byte may be nought. -/
def bfrom (i u : Nat) : List UInt8 → Option (Nat × Nat)
  | [] => none
  | c :: t => if (i = 9 ∧ 1 < c.toNat) ∨ 9 < i then none else if c.toNat < 128 then some (u + c.toNat * 128 ^ i, i + 1) else bfrom (i + 1) (u + c.toNat % 128 * 128 ^ i) t
theorem bfrom_lt (l : List UInt8) : ∀ i u v k, bfrom i u l = some (v, k) → i < k ∧ k ≤ i + l.length ∧ k ≤ 10 := by
  induction l with
  | nil => intro i u v k h; cases h
  | cons c t ih =>
    intro i u v k h
    rw [bfrom] at h
    by_cases h1 : (i = 9 ∧ 1 < c.toNat) ∨ 9 < i
    · rw [if_pos h1] at h; cases h
    · rw [if_neg h1] at h
      by_cases h2 : c.toNat < 128
      · rw [if_pos h2] at h
        obtain ⟨_, rfl⟩ := Prod.mk.inj (Option.some.inj h)
        rw [List.length_cons]; omega
      · rw [if_neg h2] at h
        have := ih _ _ _ _ h
        rw [List.length_cons]; omega
theorem vfrom_bfrom (l : List UInt8) : ∀ i u, vfrom i u l = (bfrom i u l).bind fun x => if 1 < x.2 ∧ (l.getD (x.2 - 1 - i) 0).toNat = 0 then none else some x := by
  induction l with
  | nil => intro i u; rfl
  | cons c t ih =>
    intro i u
    rw [vfrom, bfrom]
    by_cases h1 : (i = 9 ∧ 1 < c.toNat) ∨ 9 < i
    · rw [if_pos h1, if_pos h1]; rfl
    · rw [if_neg h1, if_neg h1]
      by_cases h2 : c.toNat < 128
      · rw [if_pos h2, if_pos h2]
        simp only [Option.bind_some]
        rw [show i + 1 - 1 - i = 0 by omega, List.getD_cons_zero]
        by_cases h3 : 0 < i ∧ c.toNat = 0
        · rw [if_pos h3, if_pos (by omega)]
        · rw [if_neg h3, if_neg (by omega)]
      · rw [if_neg h2, if_neg h2, ih]
        cases hb : bfrom (i + 1) (u + c.toNat % 128 * 128 ^ i) t with
        | none => rfl
        | some x =>
          have := bfrom_lt t _ _ x.1 x.2 hb
          simp only [Option.bind_some]
          rw [show x.2 - 1 - i = (x.2 - 1 - (i + 1)) + 1 by omega, List.getD_cons_succ]
end Wire
end Go.Proofs.YtiejoapnljkjdaaGreatDoor
