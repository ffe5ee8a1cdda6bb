/- The program's pad; the laws' joined. -/
import Derived.Test.YtmddaomchhigbaaGreatDoorMacSum
import Derived.Lib.SlBuf
namespace Go.Proofs.YtmddaomchhigbaaGreatDoor
open Go.RowKit
set_option linter.unusedVariables false
set_option maxRecDepth 100000

def z64 : Array Value := Array.replicate 64 (.int .u8 0)
theorem z64_size : z64.size = 64 := by rw [z64, Array.size_replicate]
theorem make64 (w : World) : (Instr.makeSlice 24 (.int .i64 64) (.int .i64 64)).run Tryz.prog w = .ok (.slice (some ⟨w.heap.size, 0, none⟩) 64 64) (w.alloc (.cells z64 5)) := make_bytes w 64 64 (by omega) (by omega)
theorem getD_nat (s : ByteArray) (i : Nat) : (Sha.nums s).getD i 0 = if h : i < s.size then (s[i].toNat : Int) else 0 := by
  by_cases h : i < s.size
  · rw [dif_pos h, Sha.nums_getD s i h]
  · rw [dif_neg h, List.getD_eq_getElem?_getD, List.getElem?_eq_none (by rw [Sha.nums_length]; omega)]
    rfl
def padStart (k : ByteArray) : Array Value := (z64.toList.take 0 ++ Lib.byteCells k.data.toList ++ z64.toList.drop (0 + k.size)).toArray
theorem padStart_cell (k : ByteArray) (hk : k.size ≤ 64) (i : Nat) (hi : i < 64) : (padStart k)[i]? = some (.int .u8 ((Sha.nums k).getD i 0)) := by
  have hl : (Lib.byteCells k.data.toList).length = k.size := by rw [Lib.byteCells_length]; rfl
  rw [padStart, List.getElem?_toArray, List.take_zero, List.nil_append]
  by_cases h : i < k.size
  · rw [List.getElem?_append_left (by omega)]
    have h' : i < k.data.toList.length := h
    rw [Sha.nums_getD k i h, Lib.byteCells, List.getElem?_map, List.getElem?_eq_getElem h']
    rfl
  · rw [List.getElem?_append_right (by omega), hl, List.getElem?_drop, getD_nat, dif_neg h, Array.getElem?_toList, z64, Array.getElem?_replicate, if_pos (by omega)]
theorem padStart_size (k : ByteArray) (hk : k.size ≤ 64) : (padStart k).size = 64 := by
  have hl : (Lib.byteCells k.data.toList).length = k.size := by rw [Lib.byteCells_length]; rfl
  simp [padStart, hl, z64_size]
  omega
structure PadRow (w wr : World) (k : List Int) (y : Int) (t : Nat) : Prop where
  bel : Below w.heap.size w wr
  row : wr.rowIs w.heap.size 5 64 (fun i => .int .u8 (if i < t then bits .xor .u8 (k.getD i 0) y else k.getD i 0))
theorem PadRow.start (w : World) (k : ByteArray) (y : Int) (hk : k.size ≤ 64) : PadRow w ((w.alloc (.cells z64 5)).setRow w.heap.size (padStart k)) (Sha.nums k) y 0 := by
  refine ⟨below_setRow ((Below.refl _ _).alloc (Nat.le_refl _) _) (Nat.le_refl _) _, ⟨_, setRow_heap _ _ _ _ _ _ (heap_new_at _ _ rfl), padStart_size k hk, fun i hi => ?_⟩⟩
  rw [padStart_cell k hk i hi]
  show some _ = some (Value.int .u8 (if i < 0 then _ else _))
  rw [if_neg (by omega)]
theorem PadRow.step {w wr : World} {k : List Int} {y : Int} {t : Nat} (P : PadRow w wr k y t) (ht : t < 64) {x : Int} (hx : x = bits .xor .u8 (k.getD t 0) y) : PadRow w (wr.setCell ⟨w.heap.size, t, none⟩ (.int .u8 x)) k y (t + 1) := by
  refine ⟨P.bel.setCell (by simp) _, (P.row.set t _).congr ?_⟩
  intro i hi
  subst hx
  by_cases e : i = t
  · subst e
    rw [if_pos rfl, if_pos (by omega)]
  · rw [if_neg e]
    by_cases e2 : i < t
    · rw [if_pos e2, if_pos (by omega)]
    · rw [if_neg e2, if_neg (by omega)]
theorem pad_getD (k : List Int) (y : Int) (i : Nat) (hi : i < 64) : (Sha.pad k y).getD i 0 = bits .xor .u8 (k.getD i 0) y := by
  rw [List.getD_eq_getElem?_getD, Sha.pad, List.getElem?_map, List.getElem?_range hi]
  rfl

set_option maxHeartbeats 1000000 in
theorem pad_any (k : ByteArray) (y : Int) (w : World) (hk : k.size ≤ 64) :
    Calls Tryz.prog 56 #[.string k, .int .u8 y] w fun e w' => e = .returned (.string (strOfNums (Sha.pad (Sha.nums k) y))) ∧ Below w.heap.size w w' := by
  have hmk := fun w : World => make64 w
  have S0 := PadRow.start w k y hk
  have hcp : ∀ ty, (Builtin.copy_ #[24, 9] ty #[.slice (some ⟨w.heap.size, 0, none⟩) 64 64, .string k]).run Tryz.prog (w.alloc (.cells z64 5)) = .ok (goInt k.size) ((w.alloc (.cells z64 5)).setRow w.heap.size (padStart k)) := fun ty => Lib.run_copy_row_string (P := Tryz.prog) (w.alloc (.cells z64 5)) 24 9 ty 5 w.heap.size 0 64 64 k z64 5 Tryz.underlying24 (by kernel_rfl) (heap_new_at _ _ rfl) hk (by rw [z64_size]; omega)
  have HCP := hid' hcp
  clear hcp
  go_enter Tryz.func56, Tryz.ntmps56
  go_wp2_with (first
    | (refine Lib.wpList_copy_run _ rfl (.tmp 8) (.tmp 9) 24 9 rfl _ _ rfl rfl (HCP.out _) ?_; refine halt' ?_)
    | fail)
  refine hid' ?_
  generalize (w.alloc _).setRow _ _ = w1 at S0 ⊢
  clear HCP hmk
  go_wp2_with fail
  go_loopw [13] (fun v wr => ∃ t : Nat, t ≤ 64 ∧ v = .int .i64 t ∧ PadRow w wr (Sha.nums k) y t) (fun v _ => 64 - (intOf v).toNat)
  case atStart => exact ⟨0, by omega, rfl, S0⟩
  case round =>
    clear S0
    obtain ⟨t, ht, rfl, P⟩ := hrel
    by_cases hlt : t < 64
    · have t64 : (t : Int) < 64 := by omega
      have c0 := P.row.cell hlt
      have f0 := P.row.frozen t
      rw [if_neg (by omega)] at c0
      go_wp2_with fail
      go_roundw
      case rel => exact ⟨t + 1, by omega, by go_num, P.step hlt rfl⟩
      case measure => simp [intOf]; omega
    · obtain rfl : t = 64 := by omega
      have hcv := conv_row (c := 64) P.row (xs := Sha.pad (Sha.nums k) y) (Sha.pad_length _ _) (fun i hi => by rw [if_pos hi, pad_getD _ _ _ hi])
      rw [show ((64 : Nat) : Int) = 64 from rfl]
      go_wp2_with fail
      go_ret
      exact ⟨rfl, P.bel⟩
end Go.Proofs.YtmddaomchhigbaaGreatDoor
