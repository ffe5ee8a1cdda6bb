/- A strings.Builder that the call itself has made: its WriteByte and String, with what of memory stays. -/
import Derived.Test.YthhmedpafjdocaaDoorBytes
import Derived.Test.YthhmedpafjdocaaDoorShelf
import Derived.Lib.Bytes
namespace Go.Proofs
open Go.Shelf
def Tryd.lays240_ren : Go.Shelf.Ren := ⟨fun | 240 => 39 | 276 => 45 | n => n, fun | 9 => 9 | 4 => 4 | 0 => 0 | 20 => 20 | 72 => 54 | 70 => 52 | 164 => 71 | 37 => 25 | 5 => 5 | n => n, fun | n => n⟩
theorem Tryd.lays240 : Go.Proofs.Lays.n240 Tryd.prog Tryd.lays240_ren := {
  mixed := by kernel_rfl
  f240 := Tryd.func39.trans (congrArg some (by kernel_rfl))
  f276 := Tryd.func45.trans (congrArg some (by kernel_rfl))
  t0 := Tryd.underlying0
  a0 := Tryd.isAgg0
  z0 := Tryd.sizeOf0
  v0 := Tryd.zeroValue0
  t4 := Tryd.underlying4
  a4 := Tryd.isAgg4
  z4 := Tryd.sizeOf4
  v4 := Tryd.zeroValue4
  t9 := Tryd.underlying9
  a9 := Tryd.isAgg9
  z9 := Tryd.sizeOf9
  v9 := Tryd.zeroValue9
  t20 := Tryd.underlying20
  a20 := Tryd.isAgg20
  z20 := Tryd.sizeOf20
  v20 := Tryd.zeroValue20
  t70 := Tryd.underlying52
  a70 := Tryd.isAgg52
  z70 := Tryd.sizeOf52
  v70 := Tryd.zeroValue52
  t72 := Tryd.underlying54
  a72 := Tryd.isAgg54
  z72 := Tryd.sizeOf54
  v72 := Tryd.zeroValue54
  t164 := Tryd.underlying71
  a164 := Tryd.isAgg71
  z164 := Tryd.sizeOf71
  v164 := Tryd.zeroValue71 }
theorem Tryd.Builder_X72_240 : Builder.X72 Tryd.prog Tryd.lays240_ren := {
  sizeBuilder := by kernel_rfl
  liesBuilder := by kernel_rfl }
end Go.Proofs
namespace Go.Proofs.YthhmedpafjdocaaDoor
open Go.RowKit
set_option linter.unusedVariables false

/-- Block b is a builder that holds the bytes l; its buffer lies from block base on. -/
def BW (base b : Nat) (w : World) (l : List Int) : Prop :=
  b < base ∧ base ≤ w.heap.size ∧ ∃ p v, w.heap[b]? = some (.cells #[p, v] 54 (0, 0)) ∧ (p = .pointer none ∨ p = .pointer (some ⟨b, 0, none⟩)) ∧ Owns base w v l
/-- Below block base all blocks but b are as they were. -/
structure KeptBut (b base : Nat) (w w' : World) : Prop where
  os : w'.os = w.os
  tape : w'.tape = w.tape
  output : w'.output = w.output
  size : w.heap.size ≤ w'.heap.size
  block : ∀ k, k < base → k ≠ b → w'.heap[k]? = w.heap[k]?
theorem KeptBut.refl (b base : Nat) (w : World) : KeptBut b base w w := ⟨rfl, rfl, rfl, Nat.le_refl _, fun _ _ _ => rfl⟩
theorem KeptBut.trans {b base : Nat} {w w1 w2 : World} (h : KeptBut b base w w1) (k : KeptBut b base w1 w2) : KeptBut b base w w2 :=
  ⟨k.os.trans h.os, k.tape.trans h.tape, k.output.trans h.output, Nat.le_trans h.size k.size, fun i hi hn => (k.block i hi hn).trans (h.block i hi hn)⟩
theorem KeptBut.below {b base B : Nat} {w0 w w' : World} (h : KeptBut b base w w') (hb : Below B w0 w) (h1 : B ≤ b) (h2 : b < base) : Below B w0 w' :=
  hb.trans ⟨h.os, h.tape, h.output, h.size, fun k hk => h.block k (by omega) (by omega)⟩
theorem BW.fresh (w w' : World) (h : Below (w.heap.size + 1) (w.alloc (.cells #[.pointer none, .slice none 0 0] 54)) w') : BW w'.heap.size w.heap.size w' [] := by
  have hz := h.size
  simp at hz
  refine ⟨by omega, Nat.le_refl _, _, _, (h.block w.heap.size (by omega)).trans ?_, Or.inl rfl, Owns.nil _ _⟩
  show (w.heap.push _)[w.heap.size]? = _
  simp

theorem copyCheck_any (base b : Nat) (w : World) (l : List Int) (h : BW base b w l) :
    Calls Tryd.prog 39 #[.pointer (some ⟨b, 0, none⟩)] w fun e w' => e = .returned (.tuple #[]) ∧ KeptBut b base w w' ∧ b < base ∧ base ≤ w'.heap.size ∧ ∃ v, w'.heap[b]? = some (.cells #[.pointer (some ⟨b, 0, none⟩), v] 54 (0, 0)) ∧ Owns base w' v l := by
  obtain ⟨hb, hw, p, v, hh, hp, hown⟩ := h
  have c0 : w.cell? ⟨b, 0, none⟩ = some p := by rw [cell_of_row _ _ _ _ _ _ hh]; rfl
  rcases hp with rfl | rfl
  · refine (Any.Builder_copyCheck_fresh Tryd.lays240 Tryd.Builder_X72_240 b w c0 (by simp [World.shape?, hh]; rfl) (frozen_of_row _ _ _ _ _ hh)).mono ?_
    rintro e w' ⟨rfl, rfl⟩
    refine ⟨rfl, ⟨rfl, rfl, rfl, by simp [World.setCell], fun k hk hn => Below.heap_setCell _ _ _ _ hn⟩, hb, by simpa [World.setCell] using hw, v, ?_, ?_⟩
    · exact heap_setCell_same _ _ 0 _ _ _ hh
    · exact ownsRow_setCell_below hown hb _
  · refine (Any.Builder_copyCheck_used Tryd.lays240 Tryd.Builder_X72_240 b w c0).mono ?_
    rintro e w' ⟨rfl, rfl⟩
    exact ⟨rfl, KeptBut.refl _ _ _, hb, hw, v, hh, hown⟩

set_option maxHeartbeats 2000000 in
set_option maxRecDepth 100000 in
theorem writeByte_any (base b : Nat) (c : Int) (w : World) (l : List Int) (h : BW base b w l) (hlen : l.length + 1 ≤ 140737488355328) :
    Calls Tryd.prog 30 #[.pointer (some ⟨b, 0, none⟩), .int .u8 c] w fun e w' => e = .returned .nilIface ∧ BW base b w' (l ++ [c]) ∧ KeptBut b base w w' := by
  go_enter Tryd.func30, Tryd.ntmps30
  go_wp2_with (go_at_call 39; refine (copyCheck_any base b _ l h).mono ?_; rintro e w1 ⟨rfl, k1, hb, hw, v, hh, hown⟩; refine halt' ?_)
  have c0 : w1.cell? ⟨b, 0, none⟩ = some (.pointer (some ⟨b, 0, none⟩)) := by rw [cell_of_row _ _ _ _ _ _ hh]; rfl
  have c1 : w1.cell? ⟨b, 1, none⟩ = some v := by rw [cell_of_row _ _ _ _ _ _ hh]; rfl
  have HO := hid' hown
  have HH := hid' hh
  have K1 := hid' k1
  clear hown hh h k1
  refine hid' ?_
  go_wp2_with (first
    | (refine append_one rfl (.tmp 11) (.tmp 13) rfl base v l rfl HO.out c rfl hlen hw (fun v2 w2 h1 h2 h3 => ?_); refine halt' ?_)
    | fail)
  have hh2 : w2.heap[b]? = some (.cells #[.pointer (some ⟨b, 0, none⟩), v] 54 (0, 0)) := (h2.block b hb).trans HH.out
  have d0 : w2.cell? ⟨b, 0, none⟩ = some (.pointer (some ⟨b, 0, none⟩)) := by rw [cell_of_row _ _ _ _ _ _ hh2]; rfl
  have d1 : w2.cell? ⟨b, 1, none⟩ = some v := by rw [cell_of_row _ _ _ _ _ _ hh2]; rfl
  have f1 : w2.frozen? ⟨b, 1, none⟩ = false := frozen_of_row _ _ _ _ _ hh2
  obtain ⟨a2, c2, rfl⟩ := h1.reads.len
  have KB : KeptBut b base w w2 := K1.out.trans ⟨h2.os, h2.tape, h2.output, h2.size, fun k hk _ => h2.block k hk⟩
  have res : BW base b (w2.setCell ⟨b, 1, none⟩ (.slice a2 (l ++ [c]).length c2)) (l ++ [c]) :=
    ⟨hb, by have := h2.size; simp [World.setCell]; omega, _, _, heap_setCell_same _ _ 1 _ _ _ hh2, Or.inr rfl, ownsRow_setCell_below h1 hb _⟩
  have res2 : KeptBut b base w (w2.setCell ⟨b, 1, none⟩ (.slice a2 (l ++ [c]).length c2)) :=
    KB.trans ⟨rfl, rfl, rfl, by simp [World.setCell], fun k hk hn => Below.heap_setCell _ _ _ _ hn⟩
  clear h1 h2 h3 hh2 HO HH K1 KB c0 c1
  generalize (l ++ [c]).length = n at *
  refine hid' ?_
  go_wp2_with fail
  go_ret
  exact ⟨rfl, res, res2⟩
theorem byteCells_of (l : List Int) (h : ∀ x ∈ l, 0 ≤ x ∧ x ≤ 255) : Lib.byteCells (Lib.bytesOf l) = l.map (.int .u8) := by
  rw [Lib.byteCells, Lib.bytesOf, List.map_map]
  apply List.map_congr_left
  intro x hx
  have := h x hx
  show Value.int .u8 (((UInt8.ofNat x.toNat).toNat : Nat) : Int) = _
  rw [UInt8.toNat_ofNat_of_lt' (by show x.toNat < 256; omega)]
  rw [Int.toNat_of_nonneg (by omega)]
theorem builder_string (base b : Nat) (w : World) (l : List Int) (h : BW base b w l) (hby : ∀ x ∈ l, 0 ≤ x ∧ x ≤ 255) :
    Calls Tryd.prog 31 #[.pointer (some ⟨b, 0, none⟩)] w fun e w' => e = .returned (.string (strOfNums l)) ∧ Below b w w' := by
  obtain ⟨hb, hw, p, v, hh, hp, hown⟩ := h
  have hn : v.ownBlock ≠ some b := fun e => by have := hown.block b e; omega
  have hown' : w.ownsRow b 5 1 v (Lib.byteCells (Lib.bytesOf l)).length (Lib.byteCells (Lib.bytesOf l)) := by
    rw [byteCells_of l hby, List.length_map]
    exact hown.mono (by omega)
  have hB : Lib.IsBuilder 54 5 b b (Lib.byteCells (Lib.bytesOf l)) w := by
    rcases hp with rfl | rfl
    · exact Or.inl ⟨Nat.le_refl _, v, hh, hown', hn⟩
    · exact Or.inr ⟨Nat.le_refl _, v, hh, hown', hn⟩
  exact Tryd.Builder_String_any b b (Lib.bytesOf l) w hB (by omega)
end Go.Proofs.YthhmedpafjdocaaDoor
