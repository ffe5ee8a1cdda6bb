/- Proved: small helpers over memory: what a call leaves of cells; slices of bytes of the call's own with what they hold so far. -/
import Derived.Test.YtiejoapnljkjdaaGreatDoorWireWalk
namespace Go.Proofs.YtiejoapnljkjdaaGreatDoor
open Go.RowKit
set_option linter.unusedVariables false
set_option linter.unusedSimpArgs false
set_option maxRecDepth 100000
theorem keep_all {W w1 : World} (B : Below W.heap.size W w1) : ∀ (a : Addr) (v : Value), W.cell? a = some v → w1.cell? a = some v := fun a v h => (B.cell (World.block_lt_of_cell? W a h)).trans h
theorem keep_below {W w1 w2 : World} (B : Below W.heap.size W w1) : Below w2.heap.size w2 W → Below w2.heap.size w2 w1 := fun h => Below.more h B
theorem alloc_cell {w : World} {p : Addr} {v : Value} (h : w.cell? p = some v) (o : Obj) : (w.alloc o).cell? p = some v :=
  keep_all ((Below.refl _ _).alloc (Nat.le_refl _) o) p v h
theorem take_snoc {α : Type} (l : List α) (k : Nat) (x : α) (h : l[k]? = some x) : l.take (k + 1) = l.take k ++ [x] := by
  obtain ⟨hlt, e⟩ := List.getElem?_eq_some_iff.1 h
  rw [List.take_succ_eq_append_getElem hlt, e]
theorem add_gen (b off j : Nat) : (⟨b, off, none⟩ : Addr).add j = ⟨b, off + j, none⟩ := by unfold Addr.add; split <;> simp_all
/-- A block of cells, whole. -/
theorem block_cells {W : World} {b : Nat} {xs : Array Value} {t : TypeId} (h : W.heap[b]? = some (.cells xs t (0, 0))) : (∀ i v, xs[i]? = some v → W.cell? ⟨b, i, none⟩ = some v) ∧ ∀ o, W.frozen? ⟨b, o, none⟩ = false :=
  ⟨fun i v hv => by simp [World.cell?, h, hv], fun o => by simp [World.frozen?, h]⟩
theorem block_kept {W w1 : World} {b : Nat} {o : Obj} (B : Below W.heap.size W w1) (h : W.heap[b]? = some o) : w1.heap[b]? = some o := (B.block b (lt_of_block h)).trans h
theorem putInt_len (n : Int) (h : -9223372036854775808 ≤ n) (h' : n ≤ 9223372036854775807) : (Wire.putInt n).length ≤ 10 :=
  Wire.vbytes_len 9 _ (Nat.lt_of_lt_of_le (Wire.zig_lt n h h') (Wire.pow_10 10 (by omega)))
theorem putInt_nums (l : List UInt8) (n : Int) : nums l ++ nums (Wire.vbytes (Wire.zig n)) = nums (l ++ Wire.putInt n) := by
  unfold nums Wire.putInt; rw [List.map_append]
theorem putText_nums (l : List UInt8) (s : ByteArray) : nums l ++ (nums (Wire.vbytes (Wire.zig (s.size : Int))) ++ nums s.data.toList) = nums (l ++ Wire.putText s.data.toList) := by
  unfold nums Wire.putText Wire.putInt; rw [List.map_append, List.map_append, len_ba]
theorem Owns.nilNums (base : Nat) (w : World) : Owns base w (.slice none 0 0) (nums []) := Owns.nil base w
/-- A slice of bytes of the call's own, with what it holds so far. -/
structure Held (w : World) (l : List UInt8) (v : Value) (wr : World) : Prop where
  own : Owns w.heap.size wr v (nums l)
  bel : Below w.heap.size w wr
theorem Held.put {w wr w' : World} {l : List UInt8} {v : Value} {n : Int} {e : Ending} (A : Held w l v wr) (h : Fresh wr (nums l ++ nums (Wire.vbytes (Wire.zig n))) e w') : ∃ v', e = .returned v' ∧ Held w (l ++ Wire.putInt n) v' w' ∧ Below wr.heap.size wr w' := by
  obtain ⟨v', he, ho, hb⟩ := h
  rw [putInt_nums] at ho
  exact ⟨v', he, ⟨ho.mono A.bel.size, Below.more A.bel hb⟩, hb⟩
theorem Held.text {w wr w' : World} {l : List UInt8} {v : Value} {s : ByteArray} {e : Ending} (A : Held w l v wr) (h : Fresh wr (nums l ++ (nums (Wire.vbytes (Wire.zig (s.size : Int))) ++ nums s.data.toList)) e w') : ∃ v', e = .returned v' ∧ Held w (l ++ Wire.putText s.data.toList) v' w' ∧ Below wr.heap.size wr w' := by
  obtain ⟨v', he, ho, hb⟩ := h
  rw [putText_nums] at ho
  exact ⟨v', he, ⟨ho.mono A.bel.size, Below.more A.bel hb⟩, hb⟩
theorem Held.below {w wr w' : World} {l : List UInt8} {v : Value} (h : Held w l v wr) (B : Below wr.heap.size wr w') : Held w l v w' := ⟨h.own.below B, Below.more h.bel B⟩
theorem txt_len (s : ByteArray) (h : s.size ≤ 24) : (Wire.putText s.data.toList).length ≤ 34 := by
  have h1 : s.data.toList.length ≤ 24 := by rw [Array.length_toList]; exact h
  have := putInt_len s.data.toList.length (by omega) (by omega)
  unfold Wire.putText
  rw [List.length_append]; omega
end Go.Proofs.YtiejoapnljkjdaaGreatDoor
