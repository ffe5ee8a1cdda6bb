/- Proved: wire's PutInt, PutText as contracts. -/
import Derived.Test.YtiejoapnljkjdaaGreatDoorBytes
import Derived.Test.YtiejoapnljkjdaaGreatDoorWireBits
namespace Go.Proofs.YtiejoapnljkjdaaGreatDoor
open Go.RowKit
set_option linter.unusedVariables false
set_option linter.unusedSimpArgs false
set_option maxRecDepth 100000
/-- A fresh slice of bytes. -/
def Fresh (w : World) (l : List Int) (e : Ending) (w' : World) : Prop := ∃ v, e = .returned v ∧ Owns w.heap.size w' v l ∧ Below w.heap.size w w'
theorem clone_any (v : Value) (l : List Int) (w : World) (h : Reads w v l) (hl : l.length ≤ 140737488355328) :
    Calls Tryz.prog 51 #[v] w (Fresh w l) := by
  have HB := hid' hl
  have hn1 : ∀ (p : Option Addr) (n c : Nat) (w : World), (binOp BinOp.eql 28 (.slice p n c) (.slice none 0 0)).run Tryz.prog w = .ok (.bool p.isNone) w := by intro p n c w; cases p <;> kernel_rfl
  clear hl
  rcases h with ⟨rfl, rfl⟩ | ⟨b, off, c, rfl, hb, hc, hm, hcell⟩
  · go_enter Tryz.func51, Tryz.ntmps51
    go_wp2_with fail
    go_ret
    exact ⟨_, rfl, Owns.nil _ _, Below.refl _ _⟩
  · have HR := hid' (show Reads w (.slice (some ⟨b, off, none⟩) l.length c) l from Or.inr ⟨b, off, c, rfl, hb, hc, hm, hcell⟩)
    clear hcell
    go_enter Tryz.func51, Tryz.ntmps51
    go_wp2_with (refine append_reads rfl _ _ rfl w.heap.size _ [] rfl (Owns.made (Nat.le_refl _) #[] (by decide)) l (HR.out.alloc _) (by have := HB.out; simp; omega) (by simp) (fun v' w' h1 h2 h3 => ?_); refine halt' ?_)
    refine hid' ?_
    go_wp2_with fail
    go_ret
    exact ⟨_, rfl, h1, ((Below.refl _ _).alloc (Nat.le_refl _) _).trans h2⟩
/-- Bytes as numbers. -/
def nums (l : List UInt8) : List Int := l.map fun c => (c.toNat : Int)
theorem nums_length (l : List UInt8) : (nums l).length = l.length := List.length_map ..
structure PutAt (w : World) (l : List Int) (z : Nat) (wr : World) (v : Value) (lc : List Int) (k : Nat) : Prop where
  own : Owns w.heap.size wr v lc
  bel : Below w.heap.size w wr
  eq : lc ++ nums (Wire.vbytes k) = l ++ nums (Wire.vbytes z)
  lt : z < 18446744073709551616
theorem PutAt.room {w : World} {l : List Int} {z : Nat} {wr : World} {v : Value} {lc : List Int} {k : Nat} (A : PutAt w l z wr v lc k) : lc.length + 1 ≤ l.length + 10 := by
  have h := congrArg List.length A.eq
  rw [List.length_append, List.length_append, nums_length, nums_length] at h
  have h1 := Wire.vbytes_pos k
  have h2 := Wire.vbytes_len 9 z (Nat.lt_of_lt_of_le A.lt (Wire.pow_10 10 (by omega)))
  omega
theorem PutAt.step {w : World} {l : List Int} {z : Nat} {wr w' : World} {v v' : Value} {lc : List Int} {k : Nat} (A : PutAt w l z wr v lc k) (hk : 128 ≤ k)
    (h1 : Owns w.heap.size w' v' (lc ++ [bits .or .u8 (IntKind.u8.wrap (k : Int)) 128])) (h2 : Below w.heap.size wr w') : PutAt w l z w' v' (lc ++ [bits .or .u8 (IntKind.u8.wrap (k : Int)) 128]) (k / 128) := by
  refine ⟨h1, A.bel.trans h2, ?_, A.lt⟩
  rw [← A.eq, Wire.vbytes_hi (by omega : ¬ k < 128), hi_bits, List.append_assoc]
  congr 1
  show _ :: _ = _ :: _
  congr 1
  dsimp only
  rw [UInt8.toNat_ofNat']
  omega
theorem PutAt.done {w : World} {l : List Int} {z : Nat} {wr w' : World} {v v' : Value} {lc : List Int} {k : Nat} (A : PutAt w l z wr v lc k) (hk : k < 128)
    (h1 : Owns w.heap.size w' v' (lc ++ [IntKind.u8.wrap (k : Int)])) (h2 : Below w.heap.size wr w') : Owns w.heap.size w' v' (l ++ nums (Wire.vbytes z)) ∧ Below w.heap.size w w' := by
  refine ⟨?_, A.bel.trans h2⟩
  rw [lo_bits k hk] at h1
  rw [← A.eq, Wire.vbytes_lo hk]
  have e : nums [UInt8.ofNat k] = [(k : Int)] := by
    show [_] = [_]
    congr 1
    dsimp only
    rw [UInt8.toNat_ofNat']
    omega
  rw [e]
  exact h1
theorem putInt_any (v : Value) (l : List Int) (n : Int) (w : World) (h : Reads w v l) (hl : l.length ≤ 140737488355300) (h1 : -9223372036854775808 ≤ n) (h2 : n ≤ 9223372036854775807) :
    Calls Tryz.prog 20 #[v, .int .i64 n] w (Fresh w (l ++ nums (Wire.vbytes (Wire.zig n)))) := by
  have HB := hid' hl
  have HN := hid' (And.intro h1 h2)
  clear hl h1 h2
  go_enter Tryz.func20, Tryz.ntmps20
  go_wp2_with fail
  refine (clone_any v l w h (by have := HB.out; omega)).mono ?_
  rintro e w1 ⟨v1, rfl, o1, b1⟩
  go_wp2_with fail
  rw [zig_bits n HN.out.1 HN.out.2]
  obtain ⟨z, hz⟩ : ∃ z, Hid (z = Wire.zig n) := ⟨_, rfl⟩
  have HZ : Hid (z < 18446744073709551616) := by rw [hz.out]; exact Wire.zig_lt n HN.out.1 HN.out.2
  rw [← hz.out]
  have HC := hid' b1
  have HO : Hid (Owns w.heap.size w1 v1 l) := o1.mono (Nat.le_refl _)
  clear HN b1 o1
  go_loopw [0, 5] (fun v u wr => ∃ (k : Nat) (lc : List Int), u = .int .u64 (k : Int) ∧ Hid (PutAt w l z wr v lc k)) (fun _ u _ => (intOf u).toNat)
  case atStart => exact ⟨z, l, rfl, hid' ⟨HO.out, HC.out, rfl, HZ.out⟩⟩
  case round =>
    obtain ⟨k, lc, rfl, HA⟩ := hrel
    have hlen := hid' HA.out.room
    by_cases hk : 128 ≤ k
    · have g0 : decide (128 ≤ (k : Int)) = true := by simp; omega
      have HK := hid' hk
      clear hk
      go_wp2_with (refine append_one rfl _ _ rfl w.heap.size _ lc rfl HA.out.own _ rfl (by have := hlen.out; have := HB.out; omega) HA.out.bel.size (fun v' w' h1 h2 h3 => ?_); refine halt' ?_)
      have H2 := hid' (HA.out.step HK.out h1 h2)
      clear h1 h2 h3
      refine hid' ?_
      go_wp2_with fail
      go_roundw
      case rel => exact ⟨k / 128, _, by go_num, H2⟩
      case measure => have := HK.out; simp [intOf]; omega
    · have g0 : decide (128 ≤ (k : Int)) = false := by simp; omega
      have HK := hid' (show k < 128 by omega)
      clear hk
      go_wp2_with (refine append_one rfl _ _ rfl w.heap.size _ lc rfl HA.out.own _ rfl (by have := hlen.out; have := HB.out; omega) HA.out.bel.size (fun v' w' h1 h2 h3 => ?_); refine halt' ?_)
      have H2 := hid' (HA.out.done HK.out h1 h2)
      clear h1 h2 h3
      refine hid' ?_
      go_wp2_with fail
      go_ret
      rw [← hz.out]
      exact ⟨_, rfl, H2.out⟩
theorem putText_any (v : Value) (l : List Int) (s : ByteArray) (w : World) (h : Reads w v l) (hl : l.length + s.size ≤ 140737488355300) :
    Calls Tryz.prog 21 #[v, .string s] w (Fresh w (l ++ (nums (Wire.vbytes (Wire.zig (s.size : Int))) ++ nums s.data.toList))) := by
  have HB := hid' hl
  clear hl
  go_enter Tryz.func21, Tryz.ntmps21
  go_wp2_with fail
  refine (putInt_any v l s.size w h (by have := HB.out; omega) (by omega) (by have := HB.out; omega)).mono ?_
  rintro e w1 ⟨v1, rfl, o1, b1⟩
  have HL := hid' (show (l ++ nums (Wire.vbytes (Wire.zig (s.size : Int)))).length + s.size ≤ 140737488355328 by
    have h1 := HB.out
    have h3 := Wire.vbytes_len 9 (Wire.zig (s.size : Int)) (Nat.lt_of_lt_of_le (Wire.zig_lt _ (by omega) (by omega)) (Wire.pow_10 10 (by omega)))
    rw [List.length_append, nums_length]
    omega)
  go_wp2_with (refine append_text rfl _ _ rfl w.heap.size _ _ rfl o1 s rfl HL.out b1.size (fun v' w' h1 h3 => ?_); refine halt' ?_)
  have b2 := hid' (Below.owned b1 h3 o1 b1.size (Nat.le_refl _))
  have o2 := hid' h1
  clear h1 h3
  refine hid' ?_
  go_wp2_with fail
  go_ret
  refine ⟨_, rfl, ?_, b2.out⟩
  rw [← List.append_assoc]
  exact o2.out
theorem Reads.nil (w : World) : Reads w (.slice none 0 0) [] := Or.inl ⟨rfl, rfl⟩
theorem refInt_any (n : Int) (w : World) (h1 : -9223372036854775808 ≤ n) (h2 : n ≤ 9223372036854775807) :
    Calls Tryz.prog 22 #[.int .i64 n] w (Fresh w (nums (Wire.vbytes (Wire.zig n)))) := by
  have HN := hid' (And.intro h1 h2)
  obtain ⟨z, hz⟩ : ∃ z, Hid (z = Wire.zig n) := ⟨_, rfl⟩
  have HZ : Hid (z < 18446744073709551616) := by rw [hz.out]; exact Wire.zig_lt n HN.out.1 HN.out.2
  clear h1 h2
  rw [← hz.out]
  have hp := zig_pos n HN.out.1 HN.out.2
  have hm := zig_neg n HN.out.1 HN.out.2
  rw [← hz.out] at hp hm
  by_cases hs : n < 0
  · have g0 : decide (n < 0) = true := by simp; omega
    have hq := hid' (hm hs)
    clear hp hm hs
    go_enter Tryz.func22, Tryz.ntmps22
    go_wp2_with fail
    rw [hq.out]
    clear g0 HN hq
    go_loopw [3, 4] (fun u v wr => ∃ (k : Nat) (lc : List Int), u = .int .u64 (k : Int) ∧ Hid (PutAt w [] z wr v lc k)) (fun u _ _ => (intOf u).toNat)
    case atStart => exact ⟨z, [], rfl, hid' ⟨Owns.nil _ _, Below.refl _ _, rfl, HZ.out⟩⟩
    case round =>
      obtain ⟨k, lc, rfl, HA⟩ := hrel
      have hlen := hid' HA.out.room
      by_cases hk : 127 < k
      · have g1 : decide (127 < (k : Int)) = true := by simp; omega
        have HK := hid' (show 128 ≤ k by omega)
        clear hk
        go_wp2_with (refine append_one rfl _ _ rfl w.heap.size _ lc rfl HA.out.own _ rfl (by have h := hlen.out; simp at h; omega) HA.out.bel.size (fun v' w' h1 h2 h3 => ?_); refine halt' ?_)
        have H2 := hid' (HA.out.step HK.out h1 h2)
        clear h1 h2 h3
        refine hid' ?_
        go_wp2_with fail
        go_roundw
        case rel => exact ⟨k / 128, _, by go_num, H2⟩
        case measure => have := HK.out; simp [intOf]; omega
      · have g1 : decide (127 < (k : Int)) = false := by simp; omega
        have HK := hid' (show k < 128 by omega)
        clear hk
        go_wp2_with (refine append_one rfl _ _ rfl w.heap.size _ lc rfl HA.out.own _ rfl (by have h := hlen.out; simp at h; omega) HA.out.bel.size (fun v' w' h1 h2 h3 => ?_); refine halt' ?_)
        have H2 := hid' (HA.out.done HK.out h1 h2)
        clear h1 h2 h3
        refine hid' ?_
        go_wp2_with fail
        go_ret
        exact ⟨_, rfl, H2.out⟩
  · have g0 : decide (n < 0) = false := by simp; omega
    have hq := hid' (hp hs)
    clear hp hm hs
    go_enter Tryz.func22, Tryz.ntmps22
    go_wp2_with fail
    rw [hq.out]
    clear g0 HN hq
    go_loopw [3, 4] (fun u v wr => ∃ (k : Nat) (lc : List Int), u = .int .u64 (k : Int) ∧ Hid (PutAt w [] z wr v lc k)) (fun u _ _ => (intOf u).toNat)
    case atStart => exact ⟨z, [], rfl, hid' ⟨Owns.nil _ _, Below.refl _ _, rfl, HZ.out⟩⟩
    case round =>
      obtain ⟨k, lc, rfl, HA⟩ := hrel
      have hlen := hid' HA.out.room
      by_cases hk : 127 < k
      · have g1 : decide (127 < (k : Int)) = true := by simp; omega
        have HK := hid' (show 128 ≤ k by omega)
        clear hk
        go_wp2_with (refine append_one rfl _ _ rfl w.heap.size _ lc rfl HA.out.own _ rfl (by have h := hlen.out; simp at h; omega) HA.out.bel.size (fun v' w' h1 h2 h3 => ?_); refine halt' ?_)
        have H2 := hid' (HA.out.step HK.out h1 h2)
        clear h1 h2 h3
        refine hid' ?_
        go_wp2_with fail
        go_roundw
        case rel => exact ⟨k / 128, _, by go_num, H2⟩
        case measure => have := HK.out; simp [intOf]; omega
      · have g1 : decide (127 < (k : Int)) = false := by simp; omega
        have HK := hid' (show k < 128 by omega)
        clear hk
        go_wp2_with (refine append_one rfl _ _ rfl w.heap.size _ lc rfl HA.out.own _ rfl (by have h := hlen.out; simp at h; omega) HA.out.bel.size (fun v' w' h1 h2 h3 => ?_); refine halt' ?_)
        have H2 := hid' (HA.out.done HK.out h1 h2)
        clear h1 h2 h3
        refine hid' ?_
        go_wp2_with fail
        go_ret
        exact ⟨_, rfl, H2.out⟩
theorem refText_any (s : ByteArray) (w : World) (hl : s.size ≤ 140737488355300) :
    Calls Tryz.prog 23 #[.string s] w (Fresh w (nums (Wire.vbytes (Wire.zig (s.size : Int))) ++ nums s.data.toList)) := by
  have HB := hid' hl
  clear hl
  go_enter Tryz.func23, Tryz.ntmps23
  go_wp2_with fail
  refine (refInt_any s.size w (by omega) (by have := HB.out; omega)).mono ?_
  rintro e w1 ⟨v1, rfl, o1, b1⟩
  have HL := hid' (show (nums (Wire.vbytes (Wire.zig (s.size : Int)))).length + s.size ≤ 140737488355328 by
    have h1 := HB.out
    have h3 := Wire.vbytes_len 9 (Wire.zig (s.size : Int)) (Nat.lt_of_lt_of_le (Wire.zig_lt _ (by omega) (by omega)) (Wire.pow_10 10 (by omega)))
    rw [nums_length]
    omega)
  go_wp2_with (refine append_text rfl _ _ rfl w.heap.size _ _ rfl o1 s rfl HL.out b1.size (fun v' w' h1 h3 => ?_); refine halt' ?_)
  have b2 := hid' (Below.owned b1 h3 o1 b1.size (Nat.le_refl _))
  have o2 := hid' h1
  clear h1 h3
  refine hid' ?_
  go_wp2_with fail
  go_ret
  exact ⟨_, rfl, o2.out, b2.out⟩
end Go.Proofs.YtiejoapnljkjdaaGreatDoor
