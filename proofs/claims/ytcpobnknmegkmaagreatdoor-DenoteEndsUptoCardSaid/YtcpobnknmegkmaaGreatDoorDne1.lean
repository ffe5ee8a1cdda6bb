/- Proved: lemmas and contracts of the functions that the law reaches, part 1 of 28: WirePlain. Conditions: as each states. -/
namespace Go.Proofs.YtcpobnknmegkmaaGreatDoor
set_option linter.unusedVariables false
set_option linter.unusedSimpArgs false
namespace Wire
/-- A number without its sign. -/
def zig (n : Int) : Nat := if 0 ≤ n then 2 * n.toNat else 2 * (-n).toNat - 1
def zag (u : Nat) : Int := if u % 2 = 0 then ((u / 2 : Nat) : Int) else -((u / 2 : Nat) : Int) - 1
theorem zag_zig (n : Int) : zag (zig n) = n := by
  unfold zag zig
  by_cases h : 0 ≤ n
  · rw [if_pos h, if_pos (by omega)]; omega
  · rw [if_neg h, if_neg (by omega)]; omega
theorem zig_zag (u : Nat) : zig (zag u) = u := by
  unfold zag
  by_cases h : u % 2 = 0
  · rw [if_pos h, zig, if_pos (by omega)]; omega
  · rw [if_neg h, zig, if_neg (by omega)]; omega
theorem zig_lt (n : Int) (h : -9223372036854775808 ≤ n) (h' : n ≤ 9223372036854775807) : zig n < 18446744073709551616 := by
  unfold zig; split <;> omega
theorem zag_in (u : Nat) (h : u < 18446744073709551616) : -9223372036854775808 ≤ zag u ∧ zag u ≤ 9223372036854775807 := by
  unfold zag; split <;> omega
/-- Seven bits a byte, the lowest first. -/
def vbytes (u : Nat) : List UInt8 := if h : u < 128 then [UInt8.ofNat u] else UInt8.ofNat (u % 128 + 128) :: vbytes (u / 128)
termination_by u
theorem vbytes_lo {u : Nat} (h : u < 128) : vbytes u = [UInt8.ofNat u] := by rw [vbytes, dif_pos h]
theorem vbytes_hi {u : Nat} (h : ¬ u < 128) : vbytes u = UInt8.ofNat (u % 128 + 128) :: vbytes (u / 128) := by rw [vbytes, dif_neg h]
theorem vbytes_len (k : Nat) : ∀ u, u < 128 ^ (k + 1) → (vbytes u).length ≤ k + 1 := by
  induction k with
  | zero => intro u h; rw [vbytes_lo (by simpa using h)]; simp
  | succ k ih =>
    intro u h
    by_cases h1 : u < 128
    · rw [vbytes_lo h1]; simp
    · rw [vbytes_hi h1]
      have := ih (u / 128) (by rw [Nat.pow_succ] at h; omega)
      simp; omega
theorem vbytes_pos (u : Nat) : 1 ≤ (vbytes u).length := by
  by_cases h : u < 128
  · rw [vbytes_lo h]; simp
  · rw [vbytes_hi h]; simp
/-- What bytes say, from the i-th on, so much being known: the number, how many bytes. -/
def vfrom (i u : Nat) : List UInt8 → Option (Nat × Nat)
  | [] => none
  | c :: t =>
    if (i = 9 ∧ 1 < c.toNat) ∨ 9 < i then none
    else if c.toNat < 128 then (if 0 < i ∧ c.toNat = 0 then none else some (u + c.toNat * 128 ^ i, i + 1))
    else vfrom (i + 1) (u + c.toNat % 128 * 128 ^ i) t
theorem pow_lt (i : Nat) (h : i ≤ 8) : 128 ^ i * 128 ≤ 9223372036854775808 := by
  have : 128 ^ (i + 1) ≤ 128 ^ 9 := Nat.pow_le_pow_right (by omega) (by omega)
  rw [Nat.pow_succ] at this
  exact this
theorem pow_9 : 128 ^ 9 = 9223372036854775808 := by decide
theorem pow_10 (i : Nat) (h : 9 < i) : 18446744073709551616 ≤ 128 ^ i := by
  have : 128 ^ 10 ≤ 128 ^ i := Nat.pow_le_pow_right (by omega) h
  have h2 : 128 ^ 10 = 1180591620717411303424 := by decide
  omega
theorem vfrom_vbytes (u : Nat) : ∀ i u0 rest, u * 128 ^ i < 18446744073709551616 → (0 < i → u ≠ 0) →
    vfrom i u0 (vbytes u ++ rest) = some (u0 + u * 128 ^ i, i + (vbytes u).length) := by
  induction u using Nat.strongRecOn with
  | _ u ih =>
    intro i u0 rest hu h0
    have hi : ¬ 9 < i := by
      intro h
      have h1 := pow_10 i h
      have h2 : 1 * 128 ^ i ≤ u * 128 ^ i := Nat.mul_le_mul_right _ (by have := h0 (by omega); omega)
      omega
    by_cases h : u < 128
    · have hc : (UInt8.ofNat u).toNat = u := by rw [UInt8.toNat_ofNat']; omega
      rw [vbytes_lo h, List.singleton_append, vfrom, hc, if_neg, if_pos h, if_neg (by omega)]
      · rfl
      · rintro (⟨rfl, h2⟩ | h2)
        · rw [pow_9] at hu; omega
        · exact hi h2
    · have hc : (UInt8.ofNat (u % 128 + 128)).toNat = u % 128 + 128 := by rw [UInt8.toNat_ofNat']; omega
      have e1 : u / 128 * 128 ^ (i + 1) + u % 128 * 128 ^ i = u * 128 ^ i := by
        rw [Nat.pow_succ, Nat.mul_comm (128 ^ i) 128, ← Nat.mul_assoc, ← Nat.add_mul]
        congr 1; omega
      have h9 : i ≠ 9 := by
        rintro rfl
        rw [pow_9] at hu
        omega
      rw [vbytes_hi h, List.cons_append, vfrom, hc, if_neg (by omega), if_neg (by omega), show (u % 128 + 128) % 128 = u % 128 by omega,
        ih (u / 128) (by omega) (i + 1) _ rest (by omega) (by omega), List.length_cons]
      congr 2 <;> omega
theorem vfrom_back (l : List UInt8) : ∀ i u0 v k, vfrom i u0 l = some (v, k) → ∃ u rest, l = vbytes u ++ rest ∧ v = u0 + u * 128 ^ i ∧ k = i + (vbytes u).length ∧ u * 128 ^ i < 18446744073709551616 ∧ (0 < i → u ≠ 0) := by
  induction l with
  | nil => intro i u0 v k h; cases h
  | cons c t ih =>
    intro i u0 v k h
    rw [vfrom] at h
    have hcl := c.toNat_lt
    by_cases h1 : (i = 9 ∧ 1 < c.toNat) ∨ 9 < i
    · rw [if_pos h1] at h; cases h
    · rw [if_neg h1] at h
      by_cases h2 : c.toNat < 128
      · rw [if_pos h2] at h
        by_cases h3 : 0 < i ∧ c.toNat = 0
        · rw [if_pos h3] at h; cases h
        · rw [if_neg h3] at h
          obtain ⟨rfl, rfl⟩ := Prod.mk.inj (Option.some.inj h)
          refine ⟨c.toNat, t, ?_, rfl, ?_, ?_, by omega⟩
          · rw [vbytes_lo h2, UInt8.ofNat_toNat]; rfl
          · rw [vbytes_lo h2]; rfl
          · by_cases h9 : i = 9
            · subst h9
              rw [pow_9]; omega
            · have := pow_lt i (by omega)
              have h4 : c.toNat * 128 ^ i ≤ 127 * 128 ^ i := Nat.mul_le_mul_right _ (by omega)
              omega
      · rw [if_neg h2] at h
        obtain ⟨u, rest, rfl, rfl, rfl, h5, h6⟩ := ih _ _ _ _ h
        have hu := h6 (by omega)
        have hi8 : i ≤ 8 := by omega
        have hc : c.toNat % 128 = c.toNat - 128 := by omega
        have e1 : (u * 128 + c.toNat % 128) / 128 = u := by omega
        have e2 : (u * 128 + c.toNat % 128) % 128 = c.toNat % 128 := by omega
        have e3 : (u * 128 + c.toNat % 128) * 128 ^ i = u * 128 ^ (i + 1) + c.toNat % 128 * 128 ^ i := by
          rw [Nat.add_mul, Nat.pow_succ, Nat.mul_comm (128 ^ i) 128, Nat.mul_assoc]
        have hv : vbytes (u * 128 + c.toNat % 128) = c :: vbytes u := by
          rw [vbytes_hi (by omega), e1, e2, show c.toNat % 128 + 128 = c.toNat by omega, UInt8.ofNat_toNat]
        refine ⟨u * 128 + c.toNat % 128, rest, by rw [hv]; rfl, by rw [e3]; omega, by rw [hv, List.length_cons]; omega, ?_, by omega⟩
        · rw [e3]
          have h7 : u * 128 ^ (i + 1) + 128 ^ (i + 1) ≤ 18446744073709551616 := by
            have hle : 128 ^ (i + 1) * 128 ^ (9 - i) = 9223372036854775808 * 128 := by rw [← Nat.pow_add, show i + 1 + (9 - i) = 10 by omega]
            have h8 : 128 ^ (i + 1) ∣ 18446744073709551616 := by
              refine ⟨2 * 128 ^ (8 - i), ?_⟩
              rw [Nat.mul_left_comm, ← Nat.pow_add, show i + 1 + (8 - i) = 9 by omega, pow_9]
            obtain ⟨q, hq⟩ := h8
            rw [hq] at h5 ⊢
            rw [Nat.mul_comm u] at h5 ⊢
            have : u < q := Nat.lt_of_mul_lt_mul_left h5
            rw [← Nat.mul_succ]
            exact Nat.mul_le_mul_left _ this
          have h9 : c.toNat % 128 * 128 ^ i + 1 ≤ 128 ^ (i + 1) := by
            have : (c.toNat % 128 + 1) * 128 ^ i ≤ 128 * 128 ^ i := Nat.mul_le_mul_right _ (by omega)
            have hp : 0 < 128 ^ i := Nat.pow_pos (by omega)
            rw [Nat.pow_succ, Nat.mul_comm (128 ^ i) 128]
            rw [Nat.add_mul] at this
            omega
          omega
/-- A number's bytes; what bytes say at a place. -/
def putInt (n : Int) : List UInt8 := vbytes (zig n)
def takeInt (l : List UInt8) (at' : Nat) : Option (Int × Nat) := (vfrom 0 0 (l.drop at')).map fun x => (zag x.1, at' + x.2)
def putText (s : List UInt8) : List UInt8 := putInt s.length ++ s
def takeText (l : List UInt8) (at' most : Nat) : Option (List UInt8 × Nat) :=
  match takeInt l at' with
  | none => none
  | some (n, next) => if n < 0 ∨ (most : Int) < n ∨ ((l.length : Int) - (next : Int)) < n then none else some ((l.drop next).take n.toNat, next + n.toNat)
theorem takeInt_put (n : Int) (h : -9223372036854775808 ≤ n) (h' : n ≤ 9223372036854775807) (pre rest : List UInt8) :
    takeInt (pre ++ putInt n ++ rest) pre.length = some (n, pre.length + (putInt n).length) := by
  unfold takeInt putInt
  have := zig_lt n h h'
  rw [List.append_assoc, List.drop_left, vfrom_vbytes _ 0 0 rest (by rw [Nat.pow_zero]; omega) (by omega)]
  simp only [Option.map_some, Nat.pow_zero, Nat.mul_one, Nat.zero_add, zag_zig]
theorem takeInt_back {l : List UInt8} {at' next : Nat} {n : Int} (h : takeInt l at' = some (n, next)) :
    ∃ rest, l.drop at' = putInt n ++ rest ∧ next = at' + (putInt n).length ∧ -9223372036854775808 ≤ n ∧ n ≤ 9223372036854775807 ∧ next ≤ l.length := by
  unfold takeInt at h
  cases hv : vfrom 0 0 (l.drop at') with
  | none => rw [hv] at h; cases h
  | some x =>
    rw [hv] at h
    obtain ⟨e1, e2⟩ := Prod.mk.inj (Option.some.inj h)
    obtain ⟨u, rest, hl, h1, h2, h3, _⟩ := vfrom_back _ 0 0 x.1 x.2 hv
    rw [Nat.pow_zero] at h1 h3
    have hu : x.1 = u := by omega
    have hz : zig n = u := by rw [← e1, hu, zig_zag]
    have hin := zag_in u (by omega)
    refine ⟨rest, by rw [hl, putInt, hz], by rw [putInt, hz]; omega, by rw [← e1, hu]; exact hin.1, by rw [← e1, hu]; exact hin.2, ?_⟩
    have h4 := congrArg List.length hl
    rw [List.length_drop, List.length_append] at h4
    have := vbytes_pos u
    omega
end Wire
end Go.Proofs.YtcpobnknmegkmaaGreatDoor
