/- Proved: the reference's TakeInt, TakeText as contracts: what bytes say at a place. -/
import Derived.Test.YtiejoapnljkjdaaGreatDoorWireTakeWalk
import Derived.Test.YtiejoapnljkjdaaGreatDoorWireRef
import Derived.Carry
import Derived.Deep.RegionHeld3
import Derived.Deep.DeepCutAuto
namespace Go.Proofs.YtiejoapnljkjdaaGreatDoor
open Go.RowKit
set_option linter.unusedVariables false
set_option linter.unusedSimpArgs false
set_option maxRecDepth 100000
theorem or_bits3 (k : Nat) (x : UInt8) (i : Nat) (hk : k < 128 ^ i) (hi : i ≤ 9) :
    bits .or .u64 (k : Int) (IntKind.u64.wrap (IntKind.u64.wrap (bits .and .u8 (x.toNat : Int) 127) * (2 : Int) ^ (7 * i))) = (((k + x.toNat % 128 * 128 ^ i) % 18446744073709551616 : Nat) : Int) := by
  have e : IntKind.u64.wrap (bits .and .u8 (x.toNat : Int) 127) * (2 : Int) ^ (7 * i) = (((x.toNat % 128 * 128 ^ i : Nat) : Int)) := by
    rw [low_bits, ← pow_128]; push_cast; rfl
  rw [e]
  generalize x.toNat % 128 = y
  have hM : 2 ^ (64 - 7 * i) * 2 ^ (7 * i) = 18446744073709551616 := by rw [← Nat.pow_add, show 64 - 7 * i + 7 * i = 64 by omega]
  have hm : y * 128 ^ i % 18446744073709551616 = (y % 2 ^ (64 - 7 * i)) * 128 ^ i := by
    rw [← pow_128, ← hM, Nat.mul_mod_mul_right]
  have hw : IntKind.u64.wrap ((y * 128 ^ i : Nat) : Int) = (((y % 2 ^ (64 - 7 * i)) * 128 ^ i : Nat) : Int) := by
    rw [IntKind.wrap_u64, ← hm]; rfl
  have hk9 : k < 9223372036854775808 := Nat.lt_of_lt_of_le hk (by rw [← Wire.pow_9]; exact Nat.pow_le_pow_right (by omega) hi)
  have hz : y % 2 ^ (64 - 7 * i) + 1 ≤ 2 ^ (64 - 7 * i) := Nat.mod_lt _ (Nat.pow_pos (by omega))
  have hz2 : (y % 2 ^ (64 - 7 * i) + 1) * 128 ^ i ≤ 18446744073709551616 := by
    rw [← hM, pow_128]; exact Nat.mul_le_mul_right _ hz
  rw [Nat.add_mul] at hz2
  have e2 : (k + y * 128 ^ i) % 18446744073709551616 = k + (y % 2 ^ (64 - 7 * i)) * 128 ^ i := by
    rw [← hm]; omega
  rw [hw, u64_or_nat _ _ (by omega) (by omega), or_add _ _ _ hk, e2]
def uval (l : List UInt8) (k : Nat) : Nat := Wire.usum l k % 18446744073709551616
theorem uval_lt (l : List UInt8) (k : Nat) : uval l k < 18446744073709551616 := Nat.mod_lt _ (by omega)
theorem uval_zero (l : List UInt8) : uval l 0 = 0 := rfl
theorem uval_step (l : List UInt8) (a i : Nat) (hi : i ≤ 9) (x : UInt8) (hx : l.getD (a + i) 0 = x) :
    bits .or .u64 (uval (l.drop a) i : Int) (IntKind.u64.wrap (IntKind.u64.wrap (bits .and .u8 (x.toNat : Int) 127) * (2 : Int) ^ (7 * i))) = (uval (l.drop a) (i + 1) : Int) := by
  have hk := Wire.usum_lt (l.drop a) i
  have hk9 : Wire.usum (l.drop a) i < 9223372036854775808 := Nat.lt_of_lt_of_le hk (by rw [← Wire.pow_9]; exact Nat.pow_le_pow_right (by omega) hi)
  have e : uval (l.drop a) i = Wire.usum (l.drop a) i := Nat.mod_eq_of_lt (by omega)
  have e2 : (l.drop a).getD i 0 = x := by rw [← hx]; simp only [List.getD, List.getElem?_drop]
  rw [e, or_bits3 _ _ _ hk hi]
  unfold uval
  rw [Wire.usum, e2]
/-- The bytes of the k-byte number are those that stand there. -/
def hitAt (l : List UInt8) (k : Nat) : Bool := decide (Wire.vbytes (uval l k) = l.take k)
theorem hit_take {l : List UInt8} {a k : Nat} (hk : k ≤ (l.drop a).length) (h : hitAt (l.drop a) k = true) : Wire.takeInt l a = some (Wire.zag (uval (l.drop a) k), a + k) :=
  Wire.take_hit (uval_lt _ _) hk (by simpa [hitAt] using h)
theorem no_hit {l : List UInt8} {a : Nat} (h : ∀ k, 1 ≤ k → k ≤ 10 → k ≤ (l.drop a).length → hitAt (l.drop a) k = false) : Wire.takeInt l a = none := by
  cases hc : Wire.takeInt l a with
  | none => rfl
  | some x =>
    obtain ⟨n, next⟩ := x
    obtain ⟨k, _, h1, h2, h3, h4, h5, _⟩ := Wire.take_some hc
    have := h k h1 h2 h3
    unfold hitAt uval at this
    rw [Nat.mod_eq_of_lt h5, h4] at this
    simp at this
theorem zag_odd (u : Nat) (h : u < 18446744073709551616) (hu : u % 2 = 1) : wrap64 (wrap64 (-wrap64 (IntKind.u64.wrap ((u : Int) / 2))) - 1) = Wire.zag u := by
  rw [IntKind.wrap_u64]; unfold wrap64 Wire.zag; rw [if_neg (by omega)]; omega
theorem zag_even (u : Nat) (h : u < 18446744073709551616) (hu : ¬ u % 2 = 1) : wrap64 (IntKind.u64.wrap ((u : Int) / 2)) = Wire.zag u := by
  rw [IntKind.wrap_u64]; unfold wrap64 Wire.zag; rw [if_pos (by omega)]; omega
theorem hit_bytes (l : List UInt8) (k : Nat) (hk : k ≤ l.length) : hitAt l k = decide (Wire.vbytes (uval l k) = l.take k) := rfl
theorem part_conv {w : World} {p : Option Addr} {c : Nat} {l : List UInt8} (h : Reads w (.slice p l.length c) (nums l)) (a m : Nat) (ha : a + m ≤ l.length) (hc : ¬ c = a) :
    (convert 28 9 (.slice (Option.map (fun x => x.add a) p) m (c - a))).run Tryz.prog w = .ok (.string ⟨((l.drop a).take m).toArray⟩) w := by
  have := (h.part a m (by rw [nums_length]; exact ha) hc).conv
  rw [← nums_part, strOf_bytes] at this
  exact this
theorem own_conv {base : Nat} {w : World} {v : Value} {l : List UInt8} (h : Owns base w v (nums l)) : (convert 28 9 v).run Tryz.prog w = .ok (.string ⟨l.toArray⟩) w := by
  have := h.conv
  rw [strOf_bytes] at this
  exact this
theorem keep_below' {W w1 w2 : World} (B : Below W.heap.size W w1) : Below w2.heap.size w2 W → Below w2.heap.size w2 w1 := fun h => Below.more h B
theorem hit_eq (l : List UInt8) (k : Nat) : Value.bool (Wire.vbytes (uval l k) == l.take k) = .bool (hitAt l k) := by
  congr 1
  unfold hitAt
  by_cases h : Wire.vbytes (uval l k) = l.take k
  · rw [decide_eq_true h]; simpa using h
  · rw [decide_eq_false h]; simpa using h
theorem ref_end {l : List UInt8} {a k : Nat} {n y : Int} {w w' : World} (h : Wire.takeInt l a = some (n, a + k)) (hy : y = ((a + k : Nat) : Int)) (hb : Below w.heap.size w w') :
    Gives (takenI (Wire.takeInt l a)) w (.returned (.tuple #[.int .i64 n, .int .i64 y, .bool true])) w' := by
  rw [h, hy]; exact ⟨rfl, hb⟩
theorem refTakeInt_any (v : Value) (l : List UInt8) (at' : Int) (w : World) (h : Reads w v (nums l)) (hl : l.length ≤ 140737488355300) :
    Calls Tryz.prog 60 #[v, .int .i64 at'] w (Gives (takenI (takeI l at')) w) := by
  obtain ⟨p, c, rfl⟩ := h.len
  obtain ⟨_, hcap, hmax, hnone⟩ := h.cap
  rw [nums_length] at *
  by_cases h1 : at' < 0
  · rw [takeI_neg h1]
    go_enter Tryz.func60, Tryz.ntmps60
    go_wp2_with fail
    go_ret3
    exact ⟨rfl, Below.refl _ _⟩
  · by_cases h2 : (l.length : Int) < at'
    · rw [takeI_past h2]
      have g1 : decide (at' < 0) = false := by simp; omega
      have g2 : decide ((l.length : Int) < at') = true := by simp; omega
      go_enter Tryz.func60, Tryz.ntmps60
      go_wp2_with fail
      go_ret3
      exact ⟨rfl, Below.refl _ _⟩
    · obtain ⟨a, rfl⟩ := Int.eq_ofNat_of_zero_le (by omega : 0 ≤ at')
      have h3 : a ≤ l.length := by omega
      rw [takeI_at]
      clear h1 h2
      have HB := hid' hl
      have HM := hid' hmax
      have HN := hid' hnone
      have HR := hid' h
      have b4 : (a : Int) ≤ (l.length : Int) := by omega
      have b5 : (l.length : Int) ≤ 140737488355300 := by omega
      have g3 : decide (l.length < a) = false := by simp; omega
      clear hl hmax hnone h
      go_enter Tryz.func60, Tryz.ntmps60
      go_wp2_with fail
      go_loopw [7] (fun kv wr => ∃ k : Nat, kv = .int .i64 (k : Int) ∧ 1 ≤ k ∧ k ≤ 11 ∧ k ≤ l.length - a + 1 ∧ Hid (Below w.heap.size w wr) ∧ Hid (∀ j, 1 ≤ j → j < k → hitAt (l.drop a) j = false)) (fun kv _ => 11 - (intOf kv).toNat)
      case atStart => exact ⟨1, rfl, by omega, by omega, by omega, hid' (Below.refl _ _), hid' (fun j h1 h2 => by omega)⟩
      case round =>
        obtain ⟨k, rfl, hk1, hk11, hkm, HBW, HH⟩ := hrel
        by_cases hk : k ≤ 10 ∧ k ≤ l.length - a
        · obtain ⟨hk10, hkl⟩ := hk
          have i1 : (k : Int) ≤ 10 := by omega
          have i2 : (k : Int) ≤ (l.length : Int) - (a : Int) := by omega
          have i3 : (1 : Int) ≤ (k : Int) := by omega
          have e1 : decide ((k : Int) ≤ 10) = true := by simp; omega
          have e2 : decide ((k : Int) ≤ (l.length : Int) - (a : Int)) = true := by simp; omega
          go_wp2_with fail
          obtain ⟨wo, hwo⟩ : ∃ wo : World, wo = wr := ⟨_, rfl⟩
          subst hwo
          go_loopw [8, 9] (fun uv iv wz => ∃ i : Nat, iv = .int .i64 (i : Int) ∧ i ≤ k ∧ uv = .int .u64 (uval (l.drop a) i : Int) ∧ wz = wo) (fun _ iv _ => k - (intOf iv).toNat)
          case atStart => exact ⟨0, rfl, by omega, rfl, rfl⟩
          case round =>
            obtain ⟨i, rfl, hik, rfl, rfl⟩ := hrel
            by_cases hi : i < k
            · obtain ⟨b, off, hp, hb, hcl⟩ := HR.out.cellAt (a + i) (by omega)
              subst hp
              obtain ⟨x, hx⟩ : ∃ x, l.getD (a + i) 0 = x := ⟨_, rfl⟩
              rw [hx] at hcl
              have hcl2 : wr.cell? ⟨b, off + (a + i), none⟩ = some (.int .u8 (x.toNat : Int)) := (HBW.out.cell (p := ⟨b, off + (a + i), none⟩) hb).trans hcl
              have HST := hid' (uval_step l a i (by omega) x hx)
              have j1 : (i : Int) < (k : Int) := by omega
              have j2 : (a : Int) + (i : Int) < (l.length : Int) := by omega
              have j3 : (i : Int) ≤ 9 := by omega
              clear hcl hx
              go_wp2_with fail
              go_roundw
              case rel => exact ⟨i + 1, by go_num, by omega, by rw [HST.out], by first | rfl | trivial⟩
              case measure => simp [intOf]; omega
            · obtain rfl : i = k := by omega
              have g1 : decide (i < i) = false := by simp
              clear hi
              obtain ⟨u, hu⟩ : ∃ u, Hid (u = uval (l.drop a) i) := ⟨_, rfl⟩
              have HU : Hid (u < 18446744073709551616) := by rw [hu.out]; exact uval_lt _ _
              rw [← hu.out]
              obtain ⟨n, hn⟩ : ∃ n, Hid (n = Wire.zag u) := ⟨_, rfl⟩
              have HZ : Hid (-9223372036854775808 ≤ n ∧ n ≤ 9223372036854775807) := by rw [hn.out]; exact Wire.zag_in u HU.out
              have HRW := hid' (HR.out.below HBW.out)
              have hca : ¬ c = a := by omega
              have s1 : (0 : Int) ≤ (a : Int) := by omega
              have s2 : (a : Int) ≤ (a : Int) + (i : Int) := by omega
              have s3 : (a : Int) + (i : Int) ≤ (c : Int) := by omega
              have s4 : IntKind.i64.wrap ((a : Int) + (i : Int)) = (a : Int) + (i : Int) := IntWalk.i64_in _ (by omega)
              have s5 : ((a : Int) + (i : Int)).toNat = a + i := by omega
              have hcv := hid' (fun (wx : World) (hb : Below wr.heap.size wr wx) => part_conv (HRW.out.below hb) a i (by omega) hca)
              have b0 := Below.refl wr.heap.size wr
              have HHB := hid' (hit_bytes (l.drop a) i (by rw [List.length_drop]; omega))
              go_upto_if 54 with (fail)
              go_cut [10] (fun v wx => v = .int .i64 n ∧ wr = wx)
              case first =>
                by_cases hpar : u % 2 = 1
                · have e3 : ((u : Int) % 2 == 1) = true := by rw [beq_iff_eq]; omega
                  go_wp2_with fail
                  go_meet
                  exact ⟨by rw [zag_odd u HU.out hpar, ← hn.out], by first | rfl | trivial⟩
                · have e3 : ((u : Int) % 2 == 1) = false := by rw [beq_eq_false_iff_ne]; omega
                  go_wp2_with fail
                  go_meet
                  exact ⟨by rw [zag_even u HU.out hpar, ← hn.out], by first | rfl | trivial⟩
              case rest =>
                obtain ⟨rfl, rfl⟩ := hcut
                go_upto_region 14 with (fail)
                go_cut [68] (fun v wx => v = .bool (hitAt (l.drop a) i) ∧ Below wr.heap.size wr wx)
                case first =>
                  clear e1 e2 b4 b5 g3 g1 i1 i2 i3
                  have hc0 := hcv.out _ b0.drew
                  have b0d := b0.drew
                  go_region_with (first | (go_at_call 22; refine (refInt_any _ _ HZ.out.1 HZ.out.2).mono ?_; rintro e w1 ⟨v1, rfl, o1, b1⟩; have hk2 := Below.more b0d b1; have hkc := hcv.out _ hk2; have hk3 := own_conv o1))
                  all_goals go_wp2_with fail
                  all_goals go_meet
                  all_goals exact ⟨by rw [hn.out, Wire.zig_zag, hu.out]; exact hit_eq _ _, hk2⟩
                case rest =>
                  obtain ⟨rfl, b2⟩ := hcut
                  have HB2 := hid' (Below.more HBW.out b2)
                  cases hh : hitAt (l.drop a) i with
                  | true =>
                    have HE := hid' (hit_take (by rw [List.length_drop]; exact hkl) hh)
                    rw [← hu.out, ← hn.out] at HE
                    clear hh
                    go_wp2_with fail
                    go_ret3
                    exact ref_end HE.out (by push_cast; rfl) HB2.out
                  | false =>
                    have HH2 := hid' (show ∀ j, 1 ≤ j → j < i + 1 → hitAt (l.drop a) j = false from fun j h1 h2 => by
                      by_cases e : j = i
                      · rw [e]; exact hh
                      · exact HH.out j h1 (by omega))
                    clear hh
                    go_wp2_with fail
                    go_roundw
                    case rel => exact ⟨i + 1, by go_num, by omega, by omega, by omega, HB2, HH2⟩
                    case measure => simp [intOf]; omega
        · have HE := hid' (show Wire.takeInt l a = none from no_hit fun j h1 h2 h3 => HH.out j h1 (by rw [List.length_drop] at h3; omega))
          by_cases hk10 : k ≤ 10
          · have e1 : decide ((k : Int) ≤ 10) = true := by simp; omega
            have e2 : decide ((k : Int) ≤ (l.length : Int) - (a : Int)) = false := by simp; omega
            go_wp2_with fail
            go_ret3
            exact ⟨by rw [HE.out]; rfl, HBW.out⟩
          · have e1 : decide ((k : Int) ≤ 10) = false := by simp; omega
            go_wp2_with fail
            go_ret3
            exact ⟨by rw [HE.out]; rfl, HBW.out⟩
theorem refTakeText_any (v : Value) (l : List UInt8) (at' : Int) (most : Nat) (w : World) (h : Reads w v (nums l)) (hl : l.length ≤ 140737488355300) (hm : most ≤ 1000) :
    Calls Tryz.prog 61 #[v, .int .i64 at', .int .i64 (most : Int)] w (Gives (takenS (takeS l at' most)) w) := by
  obtain ⟨p, c, rfl⟩ := h.len
  obtain ⟨_, hcap, hmax, hnone⟩ := h.cap
  rw [nums_length] at *
  have HM := hid' hmax
  have HR := hid' h
  have HN := hid' hnone
  clear hnone hmax
  go_enter Tryz.func61, Tryz.ntmps61
  go_wp2_with fail
  have hb := refTakeInt_any _ l at' w h hl
  refine hb.mono ?_
  clear hb h
  rintro e w1 ⟨rfl, b1⟩
  have HR1 := hid' (HR.out.below b1)
  have HBB := hid' b1
  clear b1
  cases ht : takeI l at' with
  | none =>
    have HE := hid' (takeS_none (most := most) ht)
    clear ht
    simp only [takenI]
    go_wp2_with fail
    go_ret3
    exact ⟨by rw [HE.out]; rfl, HBB.out⟩
  | some x =>
    obtain ⟨n, next⟩ := x
    obtain ⟨f1, f2, f3⟩ := takeI_fits ht
    have HT := hid' ht
    clear ht
    simp only [takenI]
    have f4 : (next : Int) ≤ (l.length : Int) := by omega
    have f5 : (l.length : Int) ≤ 140737488355300 := by omega
    by_cases h1 : n < 0
    · have HE := hid' (takeS_bad (most := most) HT.out (Or.inl h1))
      go_wp2_with fail
      go_ret3
      exact ⟨by rw [HE.out]; rfl, HBB.out⟩
    · by_cases h2 : (most : Int) < n
      · have HE := hid' (takeS_bad (most := most) HT.out (Or.inr (Or.inl h2)))
        go_wp2_with fail
        go_ret3
        exact ⟨by rw [HE.out]; rfl, HBB.out⟩
      · by_cases h3 : ((l.length : Int) - (next : Int)) < n
        · have HE := hid' (takeS_bad (most := most) HT.out (Or.inr (Or.inr h3)))
          have g1 : decide (n < 0) = false := by simp; omega
          have g2 : decide ((most : Int) < n) = false := by simp; omega
          go_wp2_with fail
          go_ret3
          exact ⟨by rw [HE.out]; rfl, HBB.out⟩
        · have HE := hid' (takeS_good (most := most) HT.out (by omega))
          obtain ⟨m, rfl⟩ := Int.eq_ofNat_of_zero_le (by omega : 0 ≤ n)
          have g1 : decide ((m : Int) < 0) = false := by simp
          have g2 : decide ((most : Int) < (m : Int)) = false := by simp; omega
          have g2' : decide (most < m) = false := by simp; omega
          have g3 : decide ((l.length : Int) - (next : Int) < (m : Int)) = false := by simp; omega
          rw [Int.toNat_natCast] at HE
          by_cases hcn : c = next
          · subst hcn
            obtain rfl : m = 0 := by omega
            have hcv : (convert 28 9 (.slice p 0 0)).run Tryz.prog w1 = .ok (.string ⟨#[]⟩) w1 := by
              have hr : Reads w1 (.slice p 0 0) [] := by
                rcases HR1.out with ⟨h1, _⟩ | ⟨b, off, c', h1, h2, h3, h4, h5⟩
                · simp at h1; rw [h1.1]; exact Or.inl ⟨rfl, rfl⟩
                · simp at h1; rw [h1.1]; exact Or.inr ⟨b, off, 0, rfl, h2, Nat.le_refl _, by unfold maxLen; omega, fun i hi => by simp at hi⟩
              exact hr.conv
            clear hcap
            go_wp2_with fail
            go_ret3
            exact ⟨by rw [HE.out]; rfl, HBB.out⟩
          · have hcv := (HR1.out.part next m (by rw [nums_length]; omega) hcn).conv
            rw [← nums_part, strOf_bytes] at hcv
            go_wp2_with fail
            go_ret3
            exact ⟨by rw [HE.out]; rfl, HBB.out⟩
end Go.Proofs.YtiejoapnljkjdaaGreatDoor
