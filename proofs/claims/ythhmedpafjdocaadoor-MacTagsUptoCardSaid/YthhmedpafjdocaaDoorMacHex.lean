/- Bytes written as digits: the program's Hex and the reference's. -/
import Derived.Test.YthhmedpafjdocaaDoorBuilder
import Derived.Test.YthhmedpafjdocaaDoorMacSum
import Derived.Lib.ConvBytes
import Derived.Laws.BitsLemmas
namespace Go.Proofs.YthhmedpafjdocaaDoor
open Go.RowKit
set_option linter.unusedVariables false

def digs : ByteArray := ⟨#[48, 49, 50, 51, 52, 53, 54, 55, 56, 57, 97, 98, 99, 100, 101, 102]⟩
theorem index_dig (x : Int) (h0 : 0 ≤ x) (h1 : x < 16) (w : World) : (Instr.index 9 (.string ⟨#[48, 49, 50, 51, 52, 53, 54, 55, 56, 57, 97, 98, 99, 100, 101, 102]⟩) (.int .u8 x)).run Tryd.prog w = .ok (.int .u8 (Sha.digit x)) w := by
  have hx : x = 0 ∨ x = 1 ∨ x = 2 ∨ x = 3 ∨ x = 4 ∨ x = 5 ∨ x = 6 ∨ x = 7 ∨ x = 8 ∨ x = 9 ∨ x = 10 ∨ x = 11 ∨ x = 12 ∨ x = 13 ∨ x = 14 ∨ x = 15 := by omega
  rcases hx with rfl | rfl | rfl | rfl | rfl | rfl | rfl | rfl | rfl | rfl | rfl | rfl | rfl | rfl | rfl | rfl <;> (clear h0 h1; rfl)
theorem digit_range (x : Int) (h0 : 0 ≤ x) (h1 : x < 16) : 48 ≤ Sha.digit x ∧ Sha.digit x ≤ 102 := by
  unfold Sha.digit
  split <;> omega
theorem hex_append (l m : List Int) : Sha.hex (l ++ m) = Sha.hex l ++ Sha.hex m := by simp [Sha.hex]
theorem hex_length (l : List Int) : (Sha.hex l).length = 2 * l.length := by
  induction l with
  | nil => rfl
  | cons a l ih =>
    rw [show Sha.hex (a :: l) = [Sha.digit (a / 16), Sha.digit (a % 16)] ++ Sha.hex l from rfl, List.length_append, ih]
    simp
    omega
theorem hex_byte (l : List Int) (h : ∀ x ∈ l, 0 ≤ x ∧ x ≤ 255) : ∀ y ∈ Sha.hex l, 0 ≤ y ∧ y ≤ 255 := by
  intro y hy
  simp only [Sha.hex, List.mem_flatMap, List.mem_cons, List.not_mem_nil, or_false] at hy
  obtain ⟨x, hx, rfl | rfl⟩ := hy
  · have := h x hx
    have := digit_range (x / 16) (by omega) (by omega)
    omega
  · have := h x hx
    have := digit_range (x % 16) (by omega) (by omega)
    omega
theorem nums_take_succ (s : ByteArray) (t : Nat) (h : t < s.size) : (Sha.nums s).take (t + 1) = (Sha.nums s).take t ++ [(Sha.nums s).getD t 0] := by
  have hl : t < (Sha.nums s).length := by rw [Sha.nums_length]; exact h
  rw [List.take_succ_eq_append_getElem hl, List.getD_eq_getElem?_getD, List.getElem?_eq_getElem hl]
  rfl
theorem nums_at (s : ByteArray) (t : Nat) (h : t < s.size) : 0 ≤ (Sha.nums s).getD t 0 ∧ (Sha.nums s).getD t 0 ≤ 255 := by
  rw [Sha.nums_getD s t h]
  have := (s[t]).toNat_lt
  omega
def HexPost (w : World) (l : List Int) (e : Ending) (w' : World) : Prop := e = .returned (.string (strOfNums (Sha.hex l))) ∧ Below w.heap.size w w'

set_option maxHeartbeats 1000000 in
theorem hex_any (s : ByteArray) (w : World) (hs : s.size ≤ 10000000000000) :
    Calls Tryd.prog 17 #[.string s] w (HexPost w (Sha.nums s)) := by
  have hcv := fun W : World => Lib.run_convert_string_bytes (P := Tryd.prog) W 9 25 5 s Tryd.underlying9 Tryd.underlying25 Tryd.underlying5
  have b0 : Below w.heap.size w (w.alloc (.cells #[.pointer none, .slice none 0 0] 54)) := (Below.refl _ _).alloc (Nat.le_refl _) _
  go_enter Tryd.func17, Tryd.ntmps17
  go_wp2_with fail
  generalize hW : w.alloc (.cells #[.pointer none, .slice none 0 0] 54) = w1 at *
  have hz1 : w1.heap.size = w.heap.size + 1 := by rw [← hW]; simp
  have bb : Below (w.heap.size + 1) w1 (Lib.bytesWorld w1 5 s) := ⟨rfl, rfl, rfl, by rw [Lib.bytesWorld_size]; omega, fun k hk => Lib.bytesWorld_at_old w1 _ s k (by omega)⟩
  have B0 : BW (Lib.bytesWorld w1 5 s).heap.size w.heap.size (Lib.bytesWorld w1 5 s) [] := BW.fresh w _ (by rw [hW]; exact bb)
  have hcell : ∀ t, t < s.size → (Lib.bytesWorld w1 5 s).cell? ⟨w.heap.size + 1, t, none⟩ = some (.int .u8 ((Sha.nums s).getD t 0)) := by
    intro t ht
    rw [← hz1, Lib.bytesWorld_cell w1 _ s t ht, Sha.nums_getD s t ht]
    congr 2
    rw [List.getD_eq_getElem?_getD, Array.getElem?_toList, Array.getElem?_eq_getElem ht]
    rfl
  have hsz : (Lib.bytesWorld w1 5 s).heap.size = w.heap.size + 2 := by rw [Lib.bytesWorld_size, hz1]
  have b1 : Below w.heap.size w (Lib.bytesWorld w1 5 s) := b0.trans (bb.mono (by omega))
  have HC := hid' hcell
  clear hcv hcell bb b0 hW hz1
  generalize grownCap w1 s.size 0 5 = cap
  generalize Lib.bytesWorld w1 5 s = w2 at *
  clear w1
  rw [hsz] at B0
  clear hsz
  go_loopw [9] (fun vi wr => ∃ t : Nat, t ≤ s.size ∧ vi = .int .i64 t ∧ BW (w.heap.size + 2) w.heap.size wr (Sha.hex ((Sha.nums s).take t)) ∧ KeptBut w.heap.size (w.heap.size + 2) w2 wr) (fun vi _ => s.size - (intOf vi).toNat)
  case atStart => exact ⟨0, by omega, rfl, B0, KeptBut.refl _ _ _⟩
  case round =>
    clear B0
    obtain ⟨t, ht, rfl, B, K⟩ := hrel
    by_cases hlt : t < s.size
    · have t0 : (t : Int) < (s.size : Int) := by omega
      have hx := nums_at s t hlt
      have c0 := (World.cell?_of_block (w := w2) (a := ⟨w.heap.size + 1, t, none⟩) (K.block (w.heap.size + 1) (by omega) (by omega))).trans (HC.out t hlt)
      have hstep := nums_take_succ s t hlt
      have hll : (Sha.hex ((Sha.nums s).take t)).length ≤ 2 * s.size := by rw [hex_length, List.length_take]; omega
      generalize (Sha.nums s).getD t 0 = x at *
      obtain ⟨x0, x1⟩ := hx
      have e15 := u8_and15 x x0 (by omega)
      have i1 := index_dig (x / 16) (by omega) (by omega)
      have i2 := index_dig (x % 16) (by omega) (by omega)
      have HS := hid' hstep
      clear hstep
      go_wp2_with fail
      refine (writeByte_any (w.heap.size + 2) w.heap.size (Sha.digit (x / 16)) wr _ B (by omega)).mono ?_
      rintro e w3 ⟨rfl, B3, K3⟩
      go_wp2_with fail
      refine (writeByte_any (w.heap.size + 2) w.heap.size (Sha.digit (x % 16)) w3 _ B3 (by rw [List.length_append]; simp; omega)).mono ?_
      rintro e w4 ⟨rfl, B4, K4⟩
      have B5 : BW (w.heap.size + 2) w.heap.size w4 (Sha.hex ((Sha.nums s).take (t + 1))) := by
        rw [HS.out, hex_append]
        simpa [Sha.hex] using B4
      have K5 := (K.trans K3).trans K4
      clear B B3 B4 K K3 K4 i1 i2 e15 c0
      go_wp2_with fail
      go_roundw
      case rel => exact ⟨t + 1, by omega, by go_num, B5, K5⟩
      case measure => simp [intOf]; omega
    · obtain rfl : t = s.size := by omega
      rw [List.take_of_length_le (by rw [Sha.nums_length]; omega)] at B
      go_wp2_with fail
      refine (builder_string _ _ wr _ B (hex_byte _ (fun x hx => Sha.nums_byte s x hx))).mono ?_
      rintro e w5 ⟨rfl, b5⟩
      go_wp2_with fail
      go_ret
      exact ⟨rfl, (K.below b1 (Nat.le_refl _) (by omega)).trans b5⟩
end Go.Proofs.YthhmedpafjdocaaDoor
