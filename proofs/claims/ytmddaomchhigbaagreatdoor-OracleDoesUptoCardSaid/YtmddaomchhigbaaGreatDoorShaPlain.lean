/- Plain Lean: what the two texts of layer 5 compute: SHA-256 of a list of bytes, its tag, and digits. No program stands here. -/
import Derived.Laws.Closers25b
import Derived.Laws.BytesArg
namespace Go.Proofs.YtmddaomchhigbaaGreatDoor
set_option linter.unusedVariables false
namespace Sha

/-- A byte array's bytes as numbers. -/
def nums (s : ByteArray) : List Int := s.data.toList.map fun c => (c.toNat : Int)
theorem nums_length (s : ByteArray) : (nums s).length = s.size := by
  rw [nums, List.length_map, Array.length_toList]
  rfl
theorem nums_getD (s : ByteArray) (i : Nat) (h : i < s.size) : (nums s).getD i 0 = (s[i].toNat : Int) := by
  have h' : i < s.data.size := h
  have e : (nums s)[i]? = some (s[i].toNat : Int) := by
    rw [nums, List.getElem?_map, Array.getElem?_toList, Array.getElem?_eq_getElem h']
    rfl
  rw [List.getD_eq_getElem?_getD, e]
  rfl
theorem nums_byte (s : ByteArray) (x : Int) (h : x ∈ nums s) : 0 ≤ x ∧ x ≤ 255 := by
  simp only [nums, List.mem_map] at h
  obtain ⟨c, _, rfl⟩ := h
  have := c.toNat_lt
  omega

def word (b : Nat → Int) (t : Nat) : Int :=
  bits .or .u32 (bits .or .u32 (bits .or .u32 (b (4 * t) % 4294967296 * 16777216 % 4294967296) (b (4 * t + 1) % 4294967296 * 65536 % 4294967296)) (b (4 * t + 2) % 4294967296 * 256 % 4294967296)) (b (4 * t + 3) % 4294967296)
def ror (x : Int) (k : Nat) : Int := bits .or .u32 (x / 2 ^ k) (x * 2 ^ (32 - k) % 4294967296)
def lit0 (x : Int) : Int := bits .xor .u32 (bits .xor .u32 (ror x 7) (ror x 18)) (x / 8)
def lit1 (x : Int) : Int := bits .xor .u32 (bits .xor .u32 (ror x 17) (ror x 19)) (x / 1024)
/-- The word behind a list of words. -/
def next (b : Nat → Int) (l : List Int) : Int :=
  if l.length < 16 then word b l.length
  else (l.getD (l.length - 16) 0 + lit0 (l.getD (l.length - 15) 0) + l.getD (l.length - 7) 0 + lit1 (l.getD (l.length - 2) 0)) % 4294967296
def sched (b : Nat → Int) : Nat → List Int
  | 0 => []
  | n + 1 => sched b n ++ [next b (sched b n)]
theorem sched_length (b : Nat → Int) (n : Nat) : (sched b n).length = n := by
  induction n with
  | zero => rfl
  | succ n ih => simp [sched, ih]
def W (b : Nat → Int) (t : Nat) : Int := next b (sched b t)
theorem sched_getD (b : Nat → Int) (n t : Nat) (h : t < n) : (sched b n).getD t 0 = W b t := by
  induction n with
  | zero => omega
  | succ n ih =>
    rw [sched]
    have hl := sched_length b n
    by_cases e : t = n
    · subst e
      simp only [List.getD_eq_getElem?_getD]
      rw [List.getElem?_append_right (by omega)]
      simp [hl, W]
    · simp only [List.getD_eq_getElem?_getD] at ih ⊢
      rw [List.getElem?_append_left (by omega)]
      exact ih (by omega)
theorem W_low (b : Nat → Int) (t : Nat) (h : t < 16) : W b t = word b t := by
  unfold W next
  rw [if_pos (by rw [sched_length]; exact h), sched_length]
theorem W_high (b : Nat → Int) (t : Nat) (h : 16 ≤ t) : W b t = (W b (t - 16) + lit0 (W b (t - 15)) + W b (t - 7) + lit1 (W b (t - 2))) % 4294967296 := by
  rw [W, next, if_neg (by rw [sched_length]; omega), sched_length, sched_getD _ _ _ (by omega), sched_getD _ _ _ (by omega), sched_getD _ _ _ (by omega), sched_getD _ _ _ (by omega)]
theorem W_bounds (b : Nat → Int) (t : Nat) : 0 ≤ W b t ∧ W b t ≤ 4294967295 := by
  by_cases h : t < 16
  · rw [W_low b t h]
    exact ⟨bits_lo_u32 _ _ _, bits_hi_u32 _ _ _⟩
  · rw [W_high b t (by omega)]
    omega
theorem word_congr (b c : Nat → Int) (t : Nat) (h : ∀ i, i < 4 * t + 4 → b i = c i) : word b t = word c t := by
  unfold word
  rw [h (4 * t) (by omega), h (4 * t + 1) (by omega), h (4 * t + 2) (by omega), h (4 * t + 3) (by omega)]
theorem W_congr (b c : Nat → Int) (h : ∀ i, i < 64 → b i = c i) : ∀ t, W b t = W c t := by
  intro t
  induction t using Nat.strongRecOn with
  | _ t ih =>
    by_cases e : t < 16
    · rw [W_low b t e, W_low c t e]
      exact word_congr b c t fun i hi => h i (by omega)
    · rw [W_high b t (by omega), W_high c t (by omega), ih _ (by omega), ih _ (by omega), ih _ (by omega), ih _ (by omega)]

/-- The sixty-four constants. -/
def kk : List Int := [0x428a2f98, 0x71374491, 0xb5c0fbcf, 0xe9b5dba5, 0x3956c25b, 0x59f111f1, 0x923f82a4, 0xab1c5ed5,
  0xd807aa98, 0x12835b01, 0x243185be, 0x550c7dc3, 0x72be5d74, 0x80deb1fe, 0x9bdc06a7, 0xc19bf174,
  0xe49b69c1, 0xefbe4786, 0x0fc19dc6, 0x240ca1cc, 0x2de92c6f, 0x4a7484aa, 0x5cb0a9dc, 0x76f988da,
  0x983e5152, 0xa831c66d, 0xb00327c8, 0xbf597fc7, 0xc6e00bf3, 0xd5a79147, 0x06ca6351, 0x14292967,
  0x27b70a85, 0x2e1b2138, 0x4d2c6dfc, 0x53380d13, 0x650a7354, 0x766a0abb, 0x81c2c92e, 0x92722c85,
  0xa2bfe8a1, 0xa81a664b, 0xc24b8b70, 0xc76c51a3, 0xd192e819, 0xd6990624, 0xf40e3585, 0x106aa070,
  0x19a4c116, 0x1e376c08, 0x2748774c, 0x34b0bcb5, 0x391c0cb3, 0x4ed8aa4a, 0x5b9cca4f, 0x682e6ff3,
  0x748f82ee, 0x78a5636f, 0x84c87814, 0x8cc70208, 0x90befffa, 0xa4506ceb, 0xbef9a3f7, 0xc67178f2]
def big1 (e : Int) : Int := bits .xor .u32 (bits .xor .u32 (ror e 6) (ror e 11)) (ror e 25)
def big0 (a : Int) : Int := bits .xor .u32 (bits .xor .u32 (ror a 2) (ror a 13)) (ror a 22)
def chs (e f g : Int) : Int := bits .xor .u32 (bits .and .u32 e f) (bits .and .u32 (bits .xor .u32 IntKind.u32.max e) g)
def maj (a b c : Int) : Int := bits .xor .u32 (bits .xor .u32 (bits .and .u32 a b) (bits .and .u32 a c)) (bits .and .u32 b c)
def t1 (k w : Int) (v : Nat → Int) : Int := (v 7 + big1 (v 4) + chs (v 4) (v 5) (v 6) + k + w) % 4294967296
def t2 (v : Nat → Int) : Int := (big0 (v 0) + maj (v 0) (v 1) (v 2)) % 4294967296
def rnd (k w : Int) (v : Nat → Int) : Nat → Int
  | 0 => (t1 k w v + t2 v) % 4294967296
  | 1 => v 0
  | 2 => v 1
  | 3 => v 2
  | 4 => (v 3 + t1 k w v) % 4294967296
  | 5 => v 4
  | 6 => v 5
  | _ => v 6
def rounds (b : Nat → Int) (h : Nat → Int) : Nat → Nat → Int
  | 0 => h
  | t + 1 => rnd (kk.getD t 0) (W b t) (rounds b h t)
def mixs (b : Nat → Int) (h : Nat → Int) (i : Nat) : Int := (h i + rounds b h 64 i) % 4294967296
def Fit (h : Nat → Int) : Prop := ∀ i, 0 ≤ h i ∧ h i ≤ 4294967295
theorem rnd_fit (k w : Int) (v : Nat → Int) (h : Fit v) : Fit (rnd k w v) := by
  intro i
  unfold rnd
  split <;> first | exact h _ | omega
theorem rounds_fit (b h : Nat → Int) (hh : Fit h) (n : Nat) : Fit (rounds b h n) := by
  induction n with
  | zero => exact hh
  | succ n ih => exact rnd_fit _ _ _ ih
theorem mixs_fit (b h : Nat → Int) : Fit (mixs b h) := by
  intro i
  unfold mixs
  omega
theorem rounds_congr (b c h : Nat → Int) (e : ∀ i, i < 64 → b i = c i) (n : Nat) : rounds b h n = rounds c h n := by
  induction n with
  | zero => rfl
  | succ n ih => rw [rounds, rounds, ih, W_congr b c e]
theorem mixs_congr (b c h : Nat → Int) (e : ∀ i, i < 64 → b i = c i) : mixs b h = mixs c h := by
  funext i
  rw [mixs, mixs, rounds_congr b c h e]

def iv : List Int := [0x6a09e667, 0xbb67ae85, 0x3c6ef372, 0xa54ff53a, 0x510e527f, 0x9b05688c, 0x1f83d9ab, 0x5be0cd19]
def st (p : List Int) : Nat → Nat → Int
  | 0 => fun i => iv.getD i 0
  | n + 1 => mixs (fun i => p.getD (64 * n + i) 0) (st p n)
theorem st_fit (p : List Int) (n : Nat) : Fit (st p n) := by
  cases n with
  | zero =>
    intro i
    simp only [st, iv]
    rcases i with _ | _ | _ | _ | _ | _ | _ | _ | i <;> simp
  | succ n => exact mixs_fit _ _
/-- A number's bytes, the highest first. -/
def be4 (x : Int) : List Int := [x / 16777216 % 256, x / 65536 % 256, x / 256 % 256, x % 256]
def be8 (n : Int) : List Int := [n / 72057594037927936 % 256, n / 281474976710656 % 256, n / 1099511627776 % 256, n / 4294967296 % 256, n / 16777216 % 256, n / 65536 % 256, n / 256 % 256, n % 256]
def nought (n : Nat) : Nat := (119 - n % 64) % 64
def padded (l : List Int) : List Int := l ++ 128 :: (List.replicate (nought l.length) 0 ++ be8 (8 * (l.length : Int)))
theorem padded_length (l : List Int) : (padded l).length = l.length + 9 + nought l.length := by simp [padded, be8]; omega
theorem padded_mod (l : List Int) : (padded l).length % 64 = 0 := by rw [padded_length]; unfold nought; omega
def outs (h : Nat → Int) (n : Nat) : List Int := (List.range n).flatMap fun i => be4 (h i)
/-- SHA-256. -/
def sum (l : List Int) : List Int := outs (st (padded l) ((padded l).length / 64)) 8
theorem outs_succ (h : Nat → Int) (n : Nat) : outs h (n + 1) = outs h n ++ be4 (h n) := by
  simp [outs, List.range_succ, List.flatMap_append]
theorem outs_length (h : Nat → Int) (n : Nat) : (outs h n).length = 4 * n := by
  induction n with
  | zero => rfl
  | succ n ih => rw [outs_succ, List.length_append, ih]; simp [be4]; omega
theorem sum_length (l : List Int) : (sum l).length = 32 := outs_length _ 8
theorem outs_byte (h : Nat → Int) (n : Nat) : ∀ x ∈ outs h n, 0 ≤ x ∧ x ≤ 255 := by
  intro x hx
  simp only [outs, List.mem_flatMap, be4, List.mem_cons, List.not_mem_nil, or_false] at hx
  obtain ⟨i, _, rfl | rfl | rfl | rfl⟩ := hx <;> omega
theorem sum_byte (l : List Int) : ∀ x ∈ sum l, 0 ≤ x ∧ x ≤ 255 := outs_byte _ 8

/-- A key's pad: sixty-four bytes, each turned by one. -/
def pad (k : List Int) (by_ : Int) : List Int := (List.range 64).map fun i => bits .xor .u8 (k.getD i 0) by_
theorem pad_length (k : List Int) (b : Int) : (pad k b).length = 64 := by simp [pad]
theorem pad_byte (k : List Int) (b : Int) : ∀ x ∈ pad k b, 0 ≤ x ∧ x ≤ 255 := by
  intro x hx
  simp only [pad, List.mem_map] at hx
  obtain ⟨i, _, rfl⟩ := hx
  exact ⟨bits_lo_u8 _ _ _, bits_hi_u8 _ _ _⟩
def key (k : List Int) : List Int := if k.length > 64 then sum k else k
/-- HMAC-SHA256. -/
def tag (k l : List Int) : List Int := sum (pad (key k) 92 ++ sum (pad (key k) 54 ++ l))
theorem tag_length (k l : List Int) : (tag k l).length = 32 := sum_length _

/-! Digits. -/
def digit (n : Int) : Int := if n < 10 then 48 + n else 87 + n
def hex (l : List Int) : List Int := l.flatMap fun c => [digit (c / 16), digit (c % 16)]
def val (n : Int) : Int := if 48 ≤ n ∧ n ≤ 57 then n - 48 else if 97 ≤ n ∧ n ≤ 102 then n - 97 + 10 else -1
/-- What pairs of digits say; none: some byte is no digit. -/
def unhexs : List Int → Option (List Int)
  | a :: b :: r => if val a < 0 ∨ val b < 0 then none else (unhexs r).map ((16 * val a + val b) :: ·)
  | [_] => none
  | [] => some []

theorem shown : hex (sum [97, 98, 99]) = (nums "ba7816bf8f01cfea414140de5dae2223b00361a396177a9cb410ff61f20015ad".toUTF8) := by
  decide +kernel
end Sha
end Go.Proofs.YtmddaomchhigbaaGreatDoor
