/- Proved: what the reference's TakeInt does, byte count by byte count, is what the bytes say (plain words). No program in sight. -/
import Derived.Test.YtiejoapnljkjdaaGreatDoorWirePlain
namespace Go.Proofs.YtiejoapnljkjdaaGreatDoor
set_option linter.unusedVariables false
set_option linter.unusedSimpArgs false
namespace Wire
/-- The number that so many bytes would say. -/
def usum (l : List UInt8) : Nat → Nat
  | 0 => 0
  | k + 1 => usum l k + (l.getD k 0).toNat % 128 * 128 ^ k
theorem usum_lt (l : List UInt8) (k : Nat) : usum l k < 128 ^ k := by
  induction k with
  | zero => simp [usum]
  | succ k ih =>
    rw [usum, Nat.pow_succ, Nat.mul_comm (128 ^ k)]
    have h1 : (l.getD k 0).toNat % 128 ≤ 127 := by omega
    have h2 : (l.getD k 0).toNat % 128 * 128 ^ k ≤ 127 * 128 ^ k := Nat.mul_le_mul_right _ h1
    omega
theorem usum_cons (c : UInt8) (t : List UInt8) (k : Nat) : usum (c :: t) (k + 1) = c.toNat % 128 + 128 * usum t k := by
  induction k with
  | zero => simp [usum]
  | succ k ih =>
    rw [usum, ih, usum]
    simp only [List.getD_cons_succ]
    have e : (t.getD k 0).toNat % 128 * 128 ^ (k + 1) = 128 * ((t.getD k 0).toNat % 128 * 128 ^ k) := by
      rw [Nat.pow_succ, ← Nat.mul_assoc, Nat.mul_comm]
    rw [Nat.mul_add, e]
    omega
theorem usum_vbytes (u : Nat) : ∀ rest, usum (vbytes u ++ rest) (vbytes u).length = u := by
  induction u using Nat.strongRecOn with
  | _ u ih =>
    intro rest
    by_cases h : u < 128
    · have hc : (UInt8.ofNat u).toNat = u := by rw [UInt8.toNat_ofNat']; omega
      rw [vbytes_lo h, List.singleton_append, List.length_singleton, usum_cons, hc]
      simp [usum]; omega
    · have hc : (UInt8.ofNat (u % 128 + 128)).toNat = u % 128 + 128 := by rw [UInt8.toNat_ofNat']; omega
      rw [vbytes_hi h, List.cons_append, List.length_cons, usum_cons, hc, ih (u / 128) (by omega)]
      omega
theorem take_hit {l : List UInt8} {at' k : Nat} {u : Nat} (hu : u < 18446744073709551616) (hk : k ≤ (l.drop at').length) (h : vbytes u = (l.drop at').take k) : takeInt l at' = some (zag u, at' + k) := by
  have e : l.drop at' = vbytes u ++ (l.drop at').drop k := by rw [h, List.take_append_drop]
  unfold takeInt
  rw [e, vfrom_vbytes u 0 0 _ (by rw [Nat.pow_zero]; omega) (by omega)]
  have hk : (vbytes u).length = k := by
    have h1 := congrArg List.length h
    rw [List.length_take] at h1
    omega
  simp [hk]
/-- Where bytes say a number, the count of its bytes is a hit. -/
theorem take_some {l : List UInt8} {at' next : Nat} {n : Int} (h : takeInt l at' = some (n, next)) :
    ∃ k, next = at' + k ∧ 1 ≤ k ∧ k ≤ 10 ∧ k ≤ (l.drop at').length ∧ vbytes (usum (l.drop at') k) = (l.drop at').take k ∧ usum (l.drop at') k < 18446744073709551616 ∧ n = zag (usum (l.drop at') k) := by
  obtain ⟨rest, h1, h2, h3, h4, h5⟩ := takeInt_back h
  have hz := zig_lt n h3 h4
  have hu : usum (l.drop at') (putInt n).length = zig n := by rw [h1, putInt, usum_vbytes]
  refine ⟨(putInt n).length, h2, vbytes_pos _, ?_, by rw [h1, List.length_append]; omega, ?_, by rw [hu]; exact hz, by rw [hu, zag_zig]⟩
  · exact vbytes_len 9 _ (by have : 128 ^ (9 + 1) = 1180591620717411303424 := by decide
                             omega)
  · rw [hu, h1, List.take_left]; rfl
end Wire
end Go.Proofs.YtiejoapnljkjdaaGreatDoor
