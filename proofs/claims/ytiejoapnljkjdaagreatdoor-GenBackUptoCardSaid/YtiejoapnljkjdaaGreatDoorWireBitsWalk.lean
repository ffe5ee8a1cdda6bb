/- Proved: wire.bits as a contract. -/
import Derived.Test.YtiejoapnljkjdaaGreatDoorWireWalk
import Derived.Test.YtiejoapnljkjdaaGreatDoorWireTake
namespace Go.Proofs.YtiejoapnljkjdaaGreatDoor
open Go.RowKit
set_option linter.unusedVariables false
set_option linter.unusedSimpArgs false
set_option maxRecDepth 100000
/-- What bits answers. -/
def bitsOf (l : List UInt8) : Nat × Nat := (Wire.bfrom 0 0 l).getD (0, 0)
structure BitsAt (l : List UInt8) (i u : Nat) : Prop where
  le : i ≤ l.length
  lt : u < 128 ^ i
  eq : Wire.bfrom 0 0 l = Wire.bfrom i u (l.drop i)
theorem drop_at {l : List UInt8} {i : Nat} {x : UInt8} (h : l[i]? = some x) : l.drop i = x :: l.drop (i + 1) := by
  obtain ⟨hi, rfl⟩ := List.getElem?_eq_some_iff.1 h
  exact List.drop_eq_getElem_cons hi
theorem bits_end {l : List UInt8} {q j : Nat} {x y : Int} {w : World} (h : bitsOf l = (q, j)) (hx : x = (q : Int)) (hy : y = (j : Int)) :
    Ret (.tuple #[.int .u64 ((bitsOf l).1 : Int), .int .i64 ((bitsOf l).2 : Int)]) w (.returned (.tuple #[.int .u64 x, .int .i64 y])) w := by
  rw [h, hx, hy]; exact ⟨rfl, rfl⟩
theorem bits_any (v : Value) (l : List UInt8) (w : World) (h : Reads w v (nums l)) (hl : l.length ≤ 140737488355300) :
    Calls Tryz.prog 89 #[v] w (Ret (.tuple #[.int .u64 ((bitsOf l).1 : Int), .int .i64 ((bitsOf l).2 : Int)]) w) := by
  have HB := hid' hl
  clear hl
  obtain ⟨p, c, rfl⟩ := h.len
  rw [nums_length] at *
  have HR := hid' h
  clear h
  go_enter Tryz.func89, Tryz.ntmps89
  go_wp2_with fail
  go_loopw [4, 9] (fun u iv wr => ∃ i k : Nat, u = .int .u64 (k : Int) ∧ iv = .int .i64 (i : Int) ∧ i ≤ l.length ∧ Hid (BitsAt l i k) ∧ wr = w) (fun _ iv _ => l.length - (intOf iv).toNat)
  case atStart => exact ⟨0, 0, rfl, rfl, Nat.zero_le _, hid' ⟨Nat.zero_le _, by simp, rfl⟩, rfl⟩
  case round =>
    obtain ⟨i, k, rfl, rfl, hi, HA, rfl⟩ := hrel
    by_cases hin : i < l.length
    · rcases HR.out with ⟨_, h0⟩ | ⟨b, off, c', hv, hb, hc, hm, hcell⟩
      · have h1 := congrArg List.length h0; rw [nums_length] at h1; rw [h1] at hin; exact absurd hin (Nat.not_lt_zero _)
      · have hp : p = some ⟨b, off, none⟩ := by simp at hv; exact hv.1
        subst hp
        obtain ⟨x, hx⟩ : ∃ x, l[i]? = some x := ⟨_, List.getElem?_eq_getElem hin⟩
        have hcl : wr.cell? ⟨b, off + i, none⟩ = some (.int .u8 (x.toNat : Int)) := by
          have := hcell i (by rw [nums_length]; exact hin)
          rw [this]
          simp [nums, List.getD, hx]
        have hxl := x.toNat_lt
        have HX := hid' hx
        have HI := hid' hin
        have g0 : decide ((i : Int) < (l.length : Int)) = true := by simp; omega
        clear hcell hm hc hv hx
        have hdr := hid' (drop_at HX.out)
        by_cases h9 : 9 < i
        · have e1 : ((i : Int) == 9) = false := by simp; omega
          have e2 : decide (9 < (i : Int)) = true := by simp; omega
          have HE := hid' (show bitsOf l = (0, 0) by unfold bitsOf; rw [HA.out.eq, hdr.out, Wire.bfrom, if_pos (Or.inr h9)]; rfl)
          clear hdr
          go_wp2_with fail
          go_ret2
          exact ⟨by rw [HE.out]; rfl, rfl⟩
        · by_cases h91 : i = 9 ∧ 1 < x.toNat
          · obtain ⟨rfl, h1⟩ := h91
            have e2 : decide ((1 : Int) < (x.toNat : Int)) = true := by simp; omega
            have HE := hid' (show bitsOf l = (0, 0) by unfold bitsOf; rw [HA.out.eq, hdr.out, Wire.bfrom, if_pos (Or.inl ⟨rfl, h1⟩)]; rfl)
            clear hdr h9
            go_wp2_with fail
            go_ret2
            exact ⟨by rw [HE.out]; rfl, rfl⟩
          · have e2 : decide (9 < (i : Int)) = false := by simp; omega
            have e3 : (((i : Int) == 9) && decide ((1 : Int) < (x.toNat : Int))) = false := by
              rw [Bool.and_eq_false_iff]
              by_cases h : i = 9
              · right; simp; omega
              · left; simp; omega
            have HB1 := hid' (show i = 9 → x.toNat ≤ 1 by omega)
            have H9 := hid' h9
            clear h91 h9
            have e6 : ∃ c9, ((i : Int) == 9) = c9 ∧ (c9 = true → decide ((1 : Int) < (x.toNat : Int)) = false) := ⟨_, rfl, fun h => by have := HB1.out; simp at h ⊢; omega⟩
            obtain ⟨c9, e6, e7⟩ := e6
            have HOR := hid' (or_bits2 k x i HA.out.lt (by have := H9.out; omega) (by have := HB1.out; omega))
            have hi9 : (i : Int) ≤ 9 := by have := H9.out; omega
            clear e3
            by_cases h12 : x.toNat < 128
            · have e5 : decide ((x.toNat : Int) < 128) = true := by simp; omega
              have HE := hid' (show bitsOf l = (k + x.toNat % 128 * 128 ^ i, i + 1) by unfold bitsOf; rw [HA.out.eq, hdr.out, Wire.bfrom, if_neg (by have := HB1.out; have := H9.out; omega), if_pos h12, Nat.mod_eq_of_lt h12]; rfl)
              clear hdr h12
              cases c9 with
              | true =>
                have e8 := e7 rfl
                clear e7
                go_wp2_with fail
                go_ret2
                exact bits_end HE.out HOR.out (by omega)
              | false =>
                clear e7
                go_wp2_with fail
                go_ret2
                exact bits_end HE.out HOR.out (by omega)
            · have e5 : decide ((x.toNat : Int) < 128) = false := by simp; omega
              have H2 := hid' (show BitsAt l (i + 1) (k + x.toNat % 128 * 128 ^ i) from ⟨HI.out, by
                have h1 := HA.out.lt
                have h2 : x.toNat % 128 * 128 ^ i ≤ 127 * 128 ^ i := Nat.mul_le_mul_right _ (by omega)
                rw [Nat.pow_succ]; omega, by rw [HA.out.eq, hdr.out, Wire.bfrom, if_neg (by have := HB1.out; have := H9.out; omega), if_neg h12]⟩)
              clear hdr h12
              cases c9 with
              | true =>
                have e8 := e7 rfl
                clear e7
                go_wp2_with fail
                go_roundw
                case rel => exact ⟨i + 1, k + x.toNat % 128 * 128 ^ i, by rw [HOR.out], by go_num, HI.out, H2, by first | rfl | trivial⟩
                case measure => have := HI.out; simp [intOf]; omega
              | false =>
                clear e7
                go_wp2_with fail
                go_roundw
                case rel => exact ⟨i + 1, k + x.toNat % 128 * 128 ^ i, by rw [HOR.out], by go_num, HI.out, H2, by first | rfl | trivial⟩
                case measure => have := HI.out; simp [intOf]; omega
    · have g0 : decide ((i : Int) < (l.length : Int)) = false := by simp; omega
      have HE := hid' (show bitsOf l = (0, 0) by unfold bitsOf; rw [HA.out.eq, List.drop_of_length_le (by omega)]; rfl)
      have g1 : decide (i < l.length) = false := by simp; omega
      clear hi
      go_wp2_with fail
      go_ret2
      exact ⟨by rw [HE.out]; rfl, rfl⟩
end Go.Proofs.YtiejoapnljkjdaaGreatDoor
