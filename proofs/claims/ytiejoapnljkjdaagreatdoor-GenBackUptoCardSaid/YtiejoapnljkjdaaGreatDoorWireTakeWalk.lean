/- Proved: wire.TakeInt, wire.TakeText as contracts: what bytes say at a place. -/
import Derived.Test.YtiejoapnljkjdaaGreatDoorWireBitsWalk
import Derived.Outline
namespace Go.Proofs.YtiejoapnljkjdaaGreatDoor
open Go.RowKit
set_option linter.unusedVariables false
set_option linter.unusedSimpArgs false
set_option maxRecDepth 100000
namespace Wire
theorem bfrom_bound (l : List UInt8) : ∀ i u v k, u < 128 ^ i → bfrom i u l = some (v, k) → v < 18446744073709551616 := by
  induction l with
  | nil => intro i u v k hu h; cases h
  | cons c t ih =>
    intro i u v k hu h
    rw [bfrom] at h
    by_cases h1 : (i = 9 ∧ 1 < c.toNat) ∨ 9 < i
    · rw [if_pos h1] at h; cases h
    · rw [if_neg h1] at h
      by_cases h2 : c.toNat < 128
      · rw [if_pos h2] at h
        obtain ⟨rfl, _⟩ := Prod.mk.inj (Option.some.inj h)
        by_cases h9 : i = 9
        · subst h9
          rw [pow_9] at *
          omega
        · have := pow_lt i (by omega)
          have h4 : c.toNat * 128 ^ i ≤ 127 * 128 ^ i := Nat.mul_le_mul_right _ (by omega)
          omega
      · rw [if_neg h2] at h
        refine ih _ _ _ _ ?_ h
        have h4 : c.toNat % 128 * 128 ^ i ≤ 127 * 128 ^ i := Nat.mul_le_mul_right _ (by omega)
        rw [Nat.pow_succ]; omega
end Wire
/-- What TakeInt answers. -/
def takenI : Option (Int × Nat) → Value
  | none => .tuple #[.int .i64 0, .int .i64 0, .bool false]
  | some (n, e) => .tuple #[.int .i64 n, .int .i64 (e : Int), .bool true]
def takeI (l : List UInt8) (at' : Int) : Option (Int × Nat) := if at' < 0 then none else Wire.takeInt l at'.toNat
theorem takeI_neg {l : List UInt8} {at' : Int} (h : at' < 0) : takeI l at' = none := if_pos h
theorem takeI_past {l : List UInt8} {at' : Int} (h : (l.length : Int) < at') : takeI l at' = none := by
  unfold takeI Wire.takeInt
  rw [if_neg (by omega), List.drop_of_length_le (by omega)]; rfl
theorem takeI_at {l : List UInt8} {a : Nat} : takeI l (a : Int) = Wire.takeInt l a := by
  unfold takeI
  rw [if_neg (by omega), Int.toNat_natCast]
theorem Reads.cap {w : World} {p : Option Addr} {n c : Nat} {l : List Int} (h : Reads w (.slice p n c) l) : n = l.length ∧ l.length ≤ c ∧ c ≤ maxLen ∧ (p = none → c = 0) := by
  rcases h with ⟨h1, rfl⟩ | ⟨b, off, c', h1, h2, h3, h4, _⟩
  · simp at h1; obtain ⟨rfl, rfl, rfl⟩ := h1; simp
  · simp at h1; obtain ⟨rfl, rfl, rfl⟩ := h1; exact ⟨rfl, h3, h4, fun e => by cases e⟩
theorem Reads.from {w : World} {p : Option Addr} {n c : Nat} {l : List Int} (h : Reads w (.slice p n c) l) (a : Nat) (ha : a ≤ l.length) (hc : ¬ c = a) :
    Reads w (.slice (Option.map (fun x => x.add a) p) (l.length - a) (c - a)) (l.drop a) := by
  rcases h with ⟨h1, rfl⟩ | ⟨b, off, c', h1, h2, h3, h4, h5⟩
  · simp at h1 ha; obtain ⟨rfl, rfl, rfl⟩ := h1; omega
  · simp at h1; obtain ⟨rfl, rfl, rfl⟩ := h1
    refine Or.inr ⟨b, off + a, c - a, by simp [Addr.add], h2, by rw [List.length_drop]; omega, by omega, fun i hi => ?_⟩
    rw [List.length_drop] at hi
    rw [Nat.add_assoc, h5 (a + i) (by omega)]
    simp [List.getD]
theorem nums_drop (l : List UInt8) (a : Nat) : nums (l.drop a) = (nums l).drop a := by unfold nums; rw [List.map_drop]
theorem Reads.cellAt {w : World} {p : Option Addr} {n c : Nat} {l : List UInt8} (h : Reads w (.slice p n c) (nums l)) (i : Nat) (hi : i < l.length) :
    ∃ b off, p = some ⟨b, off, none⟩ ∧ b < w.heap.size ∧ w.cell? ⟨b, off + i, none⟩ = some (.int .u8 ((l.getD i 0).toNat : Int)) := by
  rcases h with ⟨h1, h0⟩ | ⟨b, off, c', h1, h2, h3, h4, h5⟩
  · have := congrArg List.length h0; rw [nums_length] at this; rw [this] at hi; exact absurd hi (Nat.not_lt_zero _)
  · simp at h1; obtain ⟨rfl, rfl, rfl⟩ := h1
    refine ⟨b, off, rfl, h2, ?_⟩
    rw [h5 i (by rw [nums_length]; exact hi)]
    simp [nums, List.getD, List.getElem?_eq_getElem hi]
theorem take_none {l : List UInt8} {a : Nat} (h : Wire.bfrom 0 0 (l.drop a) = none) : Wire.takeInt l a = none := by
  unfold Wire.takeInt; rw [Wire.vfrom_bfrom, h]; rfl
theorem take_zero {l : List UInt8} {a u k : Nat} (h : Wire.bfrom 0 0 (l.drop a) = some (u, k)) (h1 : 1 < k) (h2 : (l.getD (a + k - 1) 0).toNat = 0) : Wire.takeInt l a = none := by
  unfold Wire.takeInt; rw [Wire.vfrom_bfrom, h]
  simp only [Option.bind_some]
  rw [if_pos]; · rfl
  refine ⟨h1, ?_⟩
  have e : (l.drop a).getD (k - 1 - 0) 0 = l.getD (a + k - 1) 0 := by
    simp only [List.getD, List.getElem?_drop]
    rw [show a + (k - 1 - 0) = a + k - 1 by omega]
  rw [e]; exact h2
theorem take_yes {l : List UInt8} {a u k : Nat} (h : Wire.bfrom 0 0 (l.drop a) = some (u, k)) (h1 : 1 < k → (l.getD (a + k - 1) 0).toNat ≠ 0) : Wire.takeInt l a = some (Wire.zag u, a + k) := by
  unfold Wire.takeInt; rw [Wire.vfrom_bfrom, h]
  simp only [Option.bind_some]
  rw [if_neg]; · rfl
  rintro ⟨h2, h3⟩
  apply h1 h2
  rw [← h3, show a + k - 1 = a + (k - 1 - 0) by omega]
  simp only [List.getD, List.getElem?_drop]
theorem bitsOf_none {l : List UInt8} (h : Wire.bfrom 0 0 l = none) : bitsOf l = (0, 0) := by unfold bitsOf; rw [h]; rfl
theorem bitsOf_some {l : List UInt8} {x : Nat × Nat} (h : Wire.bfrom 0 0 l = some x) : bitsOf l = x := by unfold bitsOf; rw [h]; rfl
theorem take_end {l : List UInt8} {a k : Nat} {n x y : Int} {w : World} (h : Wire.takeInt l a = some (n, a + k)) (hx : x = n) (hy : y = ((a + k : Nat) : Int)) :
    Ret (takenI (Wire.takeInt l a)) w (.returned (.tuple #[.int .i64 x, .int .i64 y, .bool true])) w := by
  rw [h, hx, hy]; exact ⟨rfl, rfl⟩
theorem takeInt_any (v : Value) (l : List UInt8) (at' : Int) (w : World) (h : Reads w v (nums l)) (hl : l.length ≤ 140737488355300) :
    Calls Tryz.prog 57 #[v, .int .i64 at'] w (Ret (takenI (takeI l at')) w) := by
  obtain ⟨p, c, rfl⟩ := h.len
  obtain ⟨_, hcap, hmax, hnone⟩ := h.cap
  rw [nums_length] at *
  by_cases h1 : at' < 0
  · rw [takeI_neg h1]
    go_enter Tryz.func57, Tryz.ntmps57
    go_wp2_with fail
    go_ret3
    exact ⟨rfl, rfl⟩
  · by_cases h2 : (l.length : Int) < at'
    · rw [takeI_past h2]
      have g1 : decide (at' < 0) = false := by simp; omega
      have g2 : decide ((l.length : Int) < at') = true := by simp; omega
      go_enter Tryz.func57, Tryz.ntmps57
      go_wp2_with fail
      go_ret3
      exact ⟨rfl, rfl⟩
    · obtain ⟨a, rfl⟩ := Int.eq_ofNat_of_zero_le (by omega : 0 ≤ at')
      have h3 : a ≤ l.length := by omega
      rw [takeI_at]
      clear h1 h2
      have HB := hid' hl
      have HM := hid' hmax
      have HR := hid' h
      clear hl hmax
      by_cases hca : c = a
      · have hla : l.length = a := by omega
        have HE := hid' (show Wire.takeInt l a = none from take_none (by rw [List.drop_of_length_le (by omega)]; rfl))
        rw [HE.out]
        have hr2 : Reads w (.slice p (l.length - a) 0) (nums []) := by
          rw [hla, Nat.sub_self]
          rcases h with ⟨h1, _⟩ | ⟨b, off, c', h1, h2, h3, h4, h5⟩
          · simp at h1; rw [h1.1]; exact Or.inl ⟨rfl, rfl⟩
          · simp at h1; rw [h1.1]; exact Or.inr ⟨b, off, 0, rfl, h2, Nat.le_refl _, by unfold maxLen; omega, fun i hi => by simp [nums] at hi⟩
        have HR2 := hid' hr2
        have g3 : decide (l.length < a) = false := by simp; omega
        subst hca
        clear hr2 h hcap hnone hla
        go_enter Tryz.func57, Tryz.ntmps57
        go_wp2_with fail
        refine (bits_any _ [] w HR2.out (by simp)).mono ?_
        rintro e w1 ⟨rfl, rfl⟩
        go_wp2_with fail
        go_ret3
        exact ⟨rfl, rfl⟩
      · have HR2 := hid' (h.from a (by rw [nums_length]; exact h3) hca)
        rw [nums_length, ← nums_drop] at HR2
        clear h hnone
        go_enter Tryz.func57, Tryz.ntmps57
        go_wp2_with fail
        refine (bits_any _ _ w HR2.out (by have := HB.out; rw [List.length_drop]; omega)).mono ?_
        rintro e w1 ⟨rfl, rfl⟩
        cases hb : Wire.bfrom 0 0 (l.drop a) with
        | none =>
          rw [bitsOf_none hb]
          have HE := hid' (take_none hb)
          clear hb
          go_wp2_with fail
          go_ret3
          exact ⟨by rw [HE.out]; rfl, rfl⟩
        | some x =>
          obtain ⟨u, k⟩ := x
          rw [bitsOf_some hb]
          have hk := Wire.bfrom_lt _ _ _ _ _ hb
          rw [List.length_drop] at hk
          have HU := hid' (Wire.bfrom_bound _ _ _ _ _ (by simp) hb)
          have HBF := hid' hb
          clear hb
          have b1 : (0 : Int) < (k : Int) := by omega
          have b2 : (k : Int) ≤ 10 := by omega
          have b3 : (a : Int) + (k : Int) ≤ (l.length : Int) := by omega
          have b4 : (a : Int) ≤ (l.length : Int) := by omega
          have b5 : (l.length : Int) ≤ 140737488355300 := by have := HB.out; omega
          have gk0 : decide (k ≤ 0) = false := by simp; omega
          by_cases k1 : k = 1
          · subst k1
            have HE := hid' (take_yes HBF.out (by omega))
            clear hk
            go_wp2_with fail
            go_ret3
            exact take_end HE.out (zag_bits u HU.out) (by push_cast; rfl)
          · obtain ⟨b, off, rfl, hb, hcl⟩ := HR.out.cellAt (a + k - 1) (by omega)
            have g1 : decide (1 < (k : Int)) = true := by simp; omega
            have g2 : decide (1 < k) = true := by simp; omega
            have hcl2 : w1.cell? ⟨b, off + (a + k - 1), none⟩ = some (.int .u8 ((l.getD (a + k - 1) 0).toNat : Int)) := hcl
            clear hcl
            by_cases hz : (l.getD (a + k - 1) 0).toNat = 0
            · have HE := hid' (take_zero HBF.out (by omega) hz)
              rw [hz] at hcl2
              clear hk hz
              go_wp2_with fail
              go_ret3
              exact ⟨by rw [HE.out]; rfl, rfl⟩
            · have HE := hid' (take_yes HBF.out (fun _ => hz))
              obtain ⟨z, hzz⟩ : ∃ z, Hid (z = (l.getD (a + k - 1) 0).toNat) := ⟨_, rfl⟩
              rw [← hzz.out] at hcl2 hz
              have gz : ((z : Int) == 0) = false := by simp; omega
              clear hk
              go_wp2_with fail
              go_ret3
              exact take_end HE.out (zag_bits u HU.out) (by push_cast; rfl)
theorem Reads.part {w : World} {p : Option Addr} {n c : Nat} {l : List Int} (h : Reads w (.slice p n c) l) (a m : Nat) (ha : a + m ≤ l.length) (hc : ¬ c = a) :
    Reads w (.slice (Option.map (fun x => x.add a) p) m (c - a)) ((l.drop a).take m) := by
  rcases h with ⟨h1, rfl⟩ | ⟨b, off, c', h1, h2, h3, h4, h5⟩
  · simp at h1 ha; obtain ⟨rfl, rfl, rfl⟩ := h1; omega
  · simp at h1; obtain ⟨rfl, rfl, rfl⟩ := h1
    have hlen : ((l.drop a).take m).length = m := by rw [List.length_take, List.length_drop]; omega
    refine Or.inr ⟨b, off + a, c - a, by rw [hlen]; simp [Addr.add], h2, by rw [hlen]; omega, by omega, fun i hi => ?_⟩
    rw [hlen] at hi
    rw [Nat.add_assoc, h5 (a + i) (by omega)]
    simp [List.getD, List.getElem?_take, hi]
theorem strOf_bytes (l : List UInt8) : strOfNums (nums l) = ⟨l.toArray⟩ := by
  unfold strOfNums nums
  rw [List.map_map]
  congr 2
  rw [List.map_congr_left (g := id) (fun c _ => by simp), List.map_id]
theorem nums_part (l : List UInt8) (a m : Nat) : nums ((l.drop a).take m) = ((nums l).drop a).take m := by unfold nums; rw [List.map_take, List.map_drop]
def takenS : Option (List UInt8 × Nat) → Value
  | none => .tuple #[.string ⟨#[]⟩, .int .i64 0, .bool false]
  | some (s, e) => .tuple #[.string ⟨s.toArray⟩, .int .i64 (e : Int), .bool true]
def takeS (l : List UInt8) (at' : Int) (most : Nat) : Option (List UInt8 × Nat) := if at' < 0 then none else Wire.takeText l at'.toNat most
theorem takeS_none {l : List UInt8} {at' : Int} {most : Nat} (h : takeI l at' = none) : takeS l at' most = none := by
  unfold takeS
  unfold takeI at h
  split
  · rfl
  · rename_i h1
    rw [if_neg h1] at h
    unfold Wire.takeText; rw [h]
theorem takeS_bad {l : List UInt8} {at' : Int} {most : Nat} {n : Int} {next : Nat} (h : takeI l at' = some (n, next)) (h2 : n < 0 ∨ (most : Int) < n ∨ ((l.length : Int) - (next : Int)) < n) : takeS l at' most = none := by
  unfold takeS
  unfold takeI at h
  split
  · rfl
  · rename_i h1
    rw [if_neg h1] at h
    unfold Wire.takeText; rw [h]; simp only []; rw [if_pos h2]
theorem takeS_good {l : List UInt8} {at' : Int} {most : Nat} {n : Int} {next : Nat} (h : takeI l at' = some (n, next)) (h2 : ¬ (n < 0 ∨ (most : Int) < n ∨ ((l.length : Int) - (next : Int)) < n)) : takeS l at' most = some ((l.drop next).take n.toNat, next + n.toNat) := by
  unfold takeS
  unfold takeI at h
  split
  · rename_i h1
    rw [if_pos h1] at h; cases h
  · rename_i h1
    rw [if_neg h1] at h
    unfold Wire.takeText; rw [h]; simp only []; rw [if_neg h2]
theorem takeI_fits {l : List UInt8} {at' : Int} {n : Int} {next : Nat} (h : takeI l at' = some (n, next)) : next ≤ l.length ∧ -9223372036854775808 ≤ n ∧ n ≤ 9223372036854775807 := by
  unfold takeI at h
  split at h
  · cases h
  · obtain ⟨rest, h1, h2, h3, h4, h5⟩ := Wire.takeInt_back h
    exact ⟨h5, h3, h4⟩
theorem takeText_any (v : Value) (l : List UInt8) (at' : Int) (most : Nat) (w : World) (h : Reads w v (nums l)) (hl : l.length ≤ 140737488355300) (hm : most ≤ 1000) :
    Calls Tryz.prog 59 #[v, .int .i64 at', .int .i64 (most : Int)] w (Ret (takenS (takeS l at' most)) w) := by
  obtain ⟨p, c, rfl⟩ := h.len
  obtain ⟨_, hcap, hmax, hnone⟩ := h.cap
  rw [nums_length] at *
  have HM := hid' hmax
  have HR := hid' h
  have HN := hid' hnone
  clear hnone hmax
  go_enter Tryz.func59, Tryz.ntmps59
  go_wp2_with fail
  have hb := takeInt_any _ l at' w h hl
  refine hb.mono ?_
  clear hb h
  rintro e w1 ⟨rfl, rfl⟩
  cases ht : takeI l at' with
  | none =>
    have HE := hid' (takeS_none (most := most) ht)
    clear ht
    simp only [takenI]
    go_wp2_with fail
    go_ret3
    exact ⟨by rw [HE.out]; rfl, rfl⟩
  | some x =>
    obtain ⟨n, next⟩ := x
    obtain ⟨f1, f2, f3⟩ := takeI_fits ht
    have HT := hid' ht
    clear ht
    simp only [takenI]
    have f4 : (next : Int) ≤ (l.length : Int) := by omega
    have f5 : (l.length : Int) ≤ 140737488355300 := by omega
    by_cases h1 : n < 0
    · have HE := hid' (takeS_bad (most := most) HT.out (Or.inl h1))
      go_wp2_with fail
      go_ret3
      exact ⟨by rw [HE.out]; rfl, rfl⟩
    · by_cases h2 : (most : Int) < n
      · have HE := hid' (takeS_bad (most := most) HT.out (Or.inr (Or.inl h2)))
        go_wp2_with fail
        go_ret3
        exact ⟨by rw [HE.out]; rfl, rfl⟩
      · by_cases h3 : ((l.length : Int) - (next : Int)) < n
        · have HE := hid' (takeS_bad (most := most) HT.out (Or.inr (Or.inr h3)))
          have g1 : decide (n < 0) = false := by simp; omega
          have g2 : decide ((most : Int) < n) = false := by simp; omega
          go_wp2_with fail
          go_ret3
          exact ⟨by rw [HE.out]; rfl, rfl⟩
        · have HE := hid' (takeS_good (most := most) HT.out (by omega))
          obtain ⟨m, rfl⟩ := Int.eq_ofNat_of_zero_le (by omega : 0 ≤ n)
          have g1 : decide ((m : Int) < 0) = false := by simp
          have g2 : decide ((most : Int) < (m : Int)) = false := by simp; omega
          have g2' : decide (most < m) = false := by simp; omega
          have g3 : decide ((l.length : Int) - (next : Int) < (m : Int)) = false := by simp; omega
          rw [Int.toNat_natCast] at HE
          by_cases hcn : c = next
          · subst hcn
            obtain rfl : m = 0 := by omega
            have hcv : (convert 28 9 (.slice p 0 0)).run Tryz.prog w1 = .ok (.string ⟨#[]⟩) w1 := by
              have hr : Reads w1 (.slice p 0 0) [] := by
                rcases HR.out with ⟨h1, _⟩ | ⟨b, off, c', h1, h2, h3, h4, h5⟩
                · simp at h1; rw [h1.1]; exact Or.inl ⟨rfl, rfl⟩
                · simp at h1; rw [h1.1]; exact Or.inr ⟨b, off, 0, rfl, h2, Nat.le_refl _, by unfold maxLen; omega, fun i hi => by simp at hi⟩
              exact hr.conv
            clear hcap
            go_wp2_with fail
            go_ret3
            exact ⟨by rw [HE.out]; rfl, rfl⟩
          · have hcv := (HR.out.part next m (by rw [nums_length]; omega) hcn).conv
            rw [← nums_part, strOf_bytes] at hcv
            go_wp2_with fail
            go_ret3
            exact ⟨by rw [HE.out]; rfl, rfl⟩
end Go.Proofs.YtiejoapnljkjdaaGreatDoor
