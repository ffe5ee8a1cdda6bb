/- Proved: the wire's work on bits in plain words. -/
import Derived.Test.YtiejoapnljkjdaaGreatDoorBase
import Derived.Test.YtiejoapnljkjdaaGreatDoorWirePlain
import Derived.Laws.BitsAllLaws
import Derived.Laws.Bits64
import Derived.Laws.DeepNot64
namespace Go.Proofs.YtiejoapnljkjdaaGreatDoor
set_option linter.unusedVariables false
set_option linter.unusedSimpArgs false
theorem xor_ones (x : Nat) (h : x < 18446744073709551616) : x ^^^ 18446744073709551615 = 18446744073709551615 - x := by
  have := congrArg BitVec.toNat (BitVec.xor_allOnes (x := BitVec.ofNat 64 x))
  rw [BitVec.toNat_xor, BitVec.toNat_not, BitVec.toNat_ofNat, BitVec.toNat_allOnes, Nat.mod_eq_of_lt (by omega)] at this
  exact this
set_option maxRecDepth 100000 in
theorem or_128 (c : Nat) (h : c < 256) : c ||| 128 = c % 128 + 128 := by
  have : ∀ c : Fin 256, c.val ||| 128 = c.val % 128 + 128 := by decide
  exact this ⟨c, h⟩
theorem zig_bits (n : Int) (h1 : -9223372036854775808 ≤ n) (h2 : n ≤ 9223372036854775807) :
    bits .xor .u64 (IntKind.u64.wrap (IntKind.u64.wrap n * 2)) (IntKind.u64.wrap (n / 9223372036854775808)) = ((Wire.zig n : Nat) : Int) := by
  rw [IntKind.wrap_u64, IntKind.wrap_u64, IntKind.wrap_u64]
  unfold Wire.zig
  by_cases h : 0 ≤ n
  · rw [if_pos h, show n % 18446744073709551616 * 2 % 18446744073709551616 = ((2 * n.toNat : Nat) : Int) by omega, show n / 9223372036854775808 % 18446744073709551616 = ((0 : Nat) : Int) by omega,
      u64_xor_nat _ _ (by omega) (by omega), Nat.xor_zero]
  · rw [if_neg h, show n % 18446744073709551616 * 2 % 18446744073709551616 = ((18446744073709551616 - 2 * (-n).toNat : Nat) : Int) by omega, show n / 9223372036854775808 % 18446744073709551616 = ((18446744073709551615 : Nat) : Int) by omega,
      u64_xor_nat _ _ (by omega) (by omega), xor_ones _ (by omega)]
    omega
theorem zig_pos (n : Int) (h1 : -9223372036854775808 ≤ n) (h2 : n ≤ 9223372036854775807) (h : ¬ n < 0) : IntKind.u64.wrap (IntKind.u64.wrap n * 2) = ((Wire.zig n : Nat) : Int) := by
  rw [IntKind.wrap_u64, IntKind.wrap_u64]
  unfold Wire.zig
  rw [if_pos (by omega)]
  omega
theorem zig_neg (n : Int) (h1 : -9223372036854775808 ≤ n) (h2 : n ≤ 9223372036854775807) (h : n < 0) :
    bits .xor .u64 IntKind.u64.max (IntKind.u64.wrap (IntKind.u64.wrap n * 2)) = ((Wire.zig n : Nat) : Int) := by
  rw [IntKind.wrap_u64, IntKind.wrap_u64]
  unfold Wire.zig
  rw [if_neg (by omega), show n % 18446744073709551616 * 2 % 18446744073709551616 = ((18446744073709551616 - 2 * (-n).toNat : Nat) : Int) by omega, show IntKind.u64.max = ((18446744073709551615 : Nat) : Int) by decide,
      u64_xor_nat _ _ (by omega) (by omega), Nat.xor_comm, xor_ones _ (by omega)]
  omega
theorem hi_bits (u : Nat) : bits .or .u8 (IntKind.u8.wrap (u : Int)) 128 = ((u % 128 + 128 : Nat) : Int) := by
  have e : IntKind.u8.wrap (u : Int) = ((u % 256 : Nat) : Int) := by simp [IntKind.wrap, IntKind.bits, IntKind.signed]
  rw [e, show (128 : Int) = ((128 : Nat) : Int) from rfl, u8_or_nat _ _ (by omega) (by omega), or_128 _ (by omega)]
  omega
theorem lo_bits (u : Nat) (h : u < 128) : IntKind.u8.wrap (u : Int) = (u : Int) := by
  simp [IntKind.wrap, IntKind.bits, IntKind.signed]; omega
set_option maxRecDepth 100000 in
theorem and_127 (c : Nat) (h : c < 256) : c &&& 127 = c % 128 := by
  have : ∀ c : Fin 256, c.val &&& 127 = c.val % 128 := by decide
  exact this ⟨c, h⟩
theorem pow_128 (i : Nat) : 2 ^ (7 * i) = 128 ^ i := by rw [Nat.pow_mul]
theorem or_add (k y i : Nat) (h : k < 128 ^ i) : k ||| y * 128 ^ i = k + y * 128 ^ i := by
  rw [← pow_128] at h ⊢
  have := Nat.shiftLeft_add_eq_or_of_lt h y
  rw [Nat.shiftLeft_eq] at this
  rw [Nat.or_comm, ← this, Nat.add_comm]
theorem low_bits (x : UInt8) : IntKind.u64.wrap (bits .and .u8 (x.toNat : Int) 127) = ((x.toNat % 128 : Nat) : Int) := by
  have hx := x.toNat_lt
  rw [show (127 : Int) = ((127 : Nat) : Int) from rfl, u8_and_nat _ _ (by omega) (by omega), and_127 _ (by omega), IntKind.wrap_u64]
  omega
theorem shl_bits (x : UInt8) (i : Nat) (hi : i ≤ 9) :
    Op.shift .shl .u64 (IntKind.u64.wrap (bits .and .u8 (x.toNat : Int) 127)) .i64 (RowKit.wrap64 (7 * (i : Int))) = pure (.int .u64 (IntKind.u64.wrap ((x.toNat % 128 * 128 ^ i : Nat) : Int))) := by
  have hw : RowKit.wrap64 (7 * (i : Int)) = ((7 * i : Nat) : Int) := by
    unfold RowKit.wrap64; omega
  rw [hw, low_bits]
  refine (shift_shl_u64 _ _ ((7 * i : Nat) : Int) (by omega) (by omega)).trans ?_
  rw [Int.toNat_natCast]
  congr 2
  rw [← pow_128]
  push_cast
  rfl
theorem or_bits (k : Nat) (x : UInt8) (i : Nat) (hk : k < 128 ^ i) (hi : i ≤ 9) (hx : i = 9 → x.toNat ≤ 1) :
    bits .or .u64 (k : Int) (IntKind.u64.wrap ((x.toNat % 128 * 128 ^ i : Nat) : Int)) = ((k + x.toNat % 128 * 128 ^ i : Nat) : Int) := by
  have hb : x.toNat % 128 * 128 ^ i ≤ 9223372036854775808 := by
    by_cases h : i = 9
    · have := hx h; subst h; rw [Wire.pow_9]; omega
    · have h1 := Wire.pow_lt i (by omega)
      have : x.toNat % 128 * 128 ^ i ≤ 128 * 128 ^ i := Nat.mul_le_mul_right _ (by omega)
      omega
  have hk9 : k < 9223372036854775808 := Nat.lt_of_lt_of_le hk (by rw [← Wire.pow_9]; exact Nat.pow_le_pow_right (by omega) hi)
  have hw : IntKind.u64.wrap ((x.toNat % 128 * 128 ^ i : Nat) : Int) = ((x.toNat % 128 * 128 ^ i : Nat) : Int) := by
    rw [IntKind.wrap_u64]; generalize x.toNat % 128 * 128 ^ i = q at *; omega
  rw [hw, u64_or_nat _ _ (by omega) (by omega), or_add _ _ _ hk]
theorem or_bits2 (k : Nat) (x : UInt8) (i : Nat) (hk : k < 128 ^ i) (hi : i ≤ 9) (hx : i = 9 → x.toNat ≤ 1) :
    bits .or .u64 (k : Int) (IntKind.u64.wrap (IntKind.u64.wrap (bits .and .u8 (x.toNat : Int) 127) * (2 : Int) ^ (7 * i))) = ((k + x.toNat % 128 * 128 ^ i : Nat) : Int) := by
  have e : (((x.toNat % 128 * 128 ^ i : Nat) : Int)) = IntKind.u64.wrap (bits .and .u8 (x.toNat : Int) 127) * (2 : Int) ^ (7 * i) := by
    rw [low_bits, ← pow_128]; push_cast; rfl
  rw [← e]
  exact or_bits k x i hk hi hx
theorem i64_xor_ones (a : Nat) (ha : a < 9223372036854775808) : bits .xor .i64 (a : Int) (-1) = -1 - (a : Int) := by
  rw [← i64_not a ha]
  show IntKind.i64.wrap ((BitVec.ofInt 64 (a : Int) ^^^ BitVec.ofInt 64 (-1)).toNat : Int) = IntKind.i64.wrap ((BitVec.ofInt 64 (-1) ^^^ BitVec.ofInt 64 (a : Int)).toNat : Int)
  rw [BitVec.xor_comm]
theorem i64_xor_zero (a : Nat) (ha : a < 9223372036854775808) : bits .xor .i64 (a : Int) 0 = (a : Int) := by
  show IntKind.i64.wrap ((BitVec.ofInt 64 (a : Int) ^^^ BitVec.ofInt 64 0).toNat : Int) = _
  have h1 : BitVec.ofInt 64 0 = 0#64 := by decide
  rw [h1, BitVec.xor_zero, ofInt_u64 a (by omega)]
  simp [IntKind.wrap, IntKind.bits, IntKind.signed]
  omega
theorem zag_bits (u : Nat) (h : u < 18446744073709551616) : bits .xor .i64 (RowKit.wrap64 ((u : Int) / 2)) (RowKit.wrap64 (-RowKit.wrap64 (bits .and .u64 (u : Int) 1))) = Wire.zag u := by
  have e1 : RowKit.wrap64 ((u : Int) / 2) = ((u / 2 : Nat) : Int) := by unfold RowKit.wrap64; omega
  have e2 : bits .and .u64 (u : Int) 1 = ((u % 2 : Nat) : Int) := by
    rw [show (1 : Int) = ((1 : Nat) : Int) from rfl, u64_and_nat _ _ h (by omega), Nat.and_one_is_mod]
  have e3 : RowKit.wrap64 (((u % 2 : Nat) : Int)) = ((u % 2 : Nat) : Int) := by unfold RowKit.wrap64; omega
  rw [e1, e2, e3]
  unfold Wire.zag
  by_cases hu : u % 2 = 0
  · rw [if_pos hu, hu, show RowKit.wrap64 (-((0 : Nat) : Int)) = 0 by unfold RowKit.wrap64; omega, i64_xor_zero _ (by omega)]
  · rw [if_neg hu, show u % 2 = 1 by omega, show RowKit.wrap64 (-((1 : Nat) : Int)) = -1 by unfold RowKit.wrap64; omega, i64_xor_ones _ (by omega)]
    omega
end Go.Proofs.YtiejoapnljkjdaaGreatDoor
