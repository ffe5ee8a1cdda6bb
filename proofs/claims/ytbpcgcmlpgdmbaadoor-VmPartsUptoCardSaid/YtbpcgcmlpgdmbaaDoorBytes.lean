/- Slices of bytes that a call owns: make, append, conversion to a string; texts as numbers. General helpers over this seat's program. -/
import Derived.Test.YtbpcgcmlpgdmbaaDoorBase
import Derived.WalkKit
import Derived.WalkLawsBesides
import Derived.Below
import Derived.Laws.AppendOwn
import Derived.Laws.MakeOwn
import Derived.Laws.BytesArg
import Derived.Lib.AppendStr
import Derived.Lib.BufferRead
import Derived.Laws.AppendOwnNone
import Derived.Deep.OwnRows
namespace Go.Proofs.YtbpcgcmlpgdmbaaDoor
open Go.RowKit
set_option linter.unusedVariables false

theorem lt_of_block {w : World} {b : Nat} {o : Obj} (h : w.heap[b]? = some o) : b < w.heap.size := by
  rcases Nat.lt_or_ge b w.heap.size with h' | h'
  · exact h'
  · rw [Array.getElem?_eq_none h'] at h
    simp at h
theorem info_byte : (Tryd.prog.info? 5).map (fun i => (i.zero, i.size, i.bytes)) = some (some (.int .u8 0), 1, 1) := by kernel_rfl
theorem madeCells_one (z : Value) (n : Nat) : madeCells #[z] n = Array.replicate n z := by
  apply Array.ext (by simp [madeCells])
  intro i h1 h2
  simp [madeCells, Nat.mod_one]
/-- The slice v, the call's own from block base on, holds the bytes l. -/
def Owns (base : Nat) (w : World) (v : Value) (l : List Int) : Prop := w.ownsRow base 5 1 v l.length (l.map (.int .u8))
theorem Owns.nil (base : Nat) (w : World) : Owns base w (.slice none 0 0) [] := w.ownsRow_nil base _ 1
theorem Owns.made {base : Nat} {w : World} (hb : base ≤ w.heap.size) (cur : Array Value) (hm : cur.size ≤ maxLen) : Owns base (w.alloc (.cells cur 5)) (.slice (some ⟨w.heap.size, 0, none⟩) 0 cur.size) [] :=
  w.ownsRow_made cur cur.size hb hm (by omega)
theorem Owns.alloc {base : Nat} {w : World} {v : Value} {l : List Int} (h : Owns base w v l) (o : Obj) : Owns base (w.alloc o) v l := World.ownsRow.alloc h o
theorem Owns.drew {base : Nat} {w : World} {v : Value} {l : List Int} (h : Owns base w v l) : Owns base w.drew v l := World.ownsRow.drew h
theorem Owns.drewN {base : Nat} {w : World} {v : Value} {l : List Int} (h : Owns base w v l) (n : Nat) : Owns base (w.drewN n) v l := h
theorem Owns.below {base : Nat} {w w' : World} {v : Value} {l : List Int} (h : Owns base w v l) (hb : Below w.heap.size w w') : Owns base w' v l := by
  obtain ⟨h1, h2⟩ := h
  refine ⟨h1, ?_⟩
  rcases h2 with h2 | ⟨g, cap, cur, hv, hg, hh, r⟩
  · exact Or.inl h2
  · have hlt : g < w.heap.size := by
      rcases Nat.lt_or_ge g w.heap.size with h | h
      · exact h
      · rw [Array.getElem?_eq_none h] at hh
        simp at hh
    exact Or.inr ⟨g, cap, cur, hv, hg, (hb.block g hlt).trans hh, r⟩
theorem Owns.mono {base base' : Nat} {w : World} {v : Value} {l : List Int} (h : Owns base w v l) (hb : base' ≤ base) : Owns base' w v l := by
  obtain ⟨h1, h2⟩ := h
  refine ⟨h1, ?_⟩
  rcases h2 with h2 | ⟨g, cap, cur, hv, hg, r⟩
  · exact Or.inl h2
  · exact Or.inr ⟨g, cap, cur, hv, by omega, r⟩
theorem Owns.shape {base : Nat} {w : World} {v : Value} {l : List Int} (h : Owns base w v l) :
    (v = .slice none 0 0 ∧ l = []) ∨ ∃ g cap, v = .slice (some ⟨g, 0, none⟩) l.length cap ∧ base ≤ g ∧ g < w.heap.size ∧ l.length ≤ cap ∧ cap ≤ maxLen ∧ (∀ i, i < l.length → w.cell? ⟨g, i, none⟩ = some (.int .u8 (l.getD i 0))) ∧ ∀ i, w.frozen? ⟨g, i, none⟩ = false := by
  have h' := h
  obtain ⟨h1, h2⟩ := h
  rcases h2 with ⟨hv, h0⟩ | ⟨g, cap, cur, hv, hg, hh, hc, hm, r⟩
  · exact Or.inl ⟨hv, List.length_eq_zero_iff.1 h0⟩
  · have hlt : g < w.heap.size := by
      rcases Nat.lt_or_ge g w.heap.size with h | h
      · exact h
      · rw [Array.getElem?_eq_none h] at hh
        simp at hh
    refine Or.inr ⟨g, cap, hv, hg, hlt, hc, hm, fun i hi => ?_, fun i => frozen_of_row _ _ _ _ _ hh⟩
    subst hv
    rw [World.ownsRow.cellAt h' i (by omega)]
    simp [hi]
theorem strCells_nums (s : ByteArray) : Lib.strCells s = (s.data.toList.map fun c => (c.toNat : Int)).map (.int .u8) := by
  simp [Lib.strCells]
theorem Owns.block {base : Nat} {w : World} {v : Value} {l : List Int} (h : Owns base w v l) : ∀ k, v.ownBlock = some k → base ≤ k := fun k hk => (World.ownsRow.lt h k hk).1
theorem Below.owned {base B : Nat} {a w w' : World} {v : Value} {l : List Int} (h : Below B a w) (hg : w.grownBy w' v.ownBlock) (ho : Owns base w v l) (hB : B ≤ w.heap.size) (hBb : B ≤ base) : Below B a w' :=
  h.grown hg hB fun k hk => by have := ho.block k hk; omega
theorem grown_trans' {a b c : World} {row : Option Nat} (h : a.grownBy b row) (k : b.grownBy c row) : a.grownBy c row :=
  ⟨k.os.trans h.os, k.tape.trans h.tape, k.output.trans h.output, Nat.le_trans h.size k.size, fun i hi hn => (k.block i (Nat.lt_of_lt_of_le hi h.size) hn).trans (h.block i hi hn)⟩
/-- A slice of bytes that can be read as a list. -/
def Reads (w : World) (v : Value) (l : List Int) : Prop :=
  (v = .slice none 0 0 ∧ l = []) ∨ ∃ b off c, v = .slice (some ⟨b, off, none⟩) l.length c ∧ b < w.heap.size ∧ l.length ≤ c ∧ c ≤ maxLen ∧ ∀ i, i < l.length → w.cell? ⟨b, off + i, none⟩ = some (.int .u8 (l.getD i 0))
theorem Owns.reads {base : Nat} {w : World} {v : Value} {l : List Int} (h : Owns base w v l) : Reads w v l := by
  rcases h.shape with h | ⟨g, cap, hv, _, hl, hc, hm, hcell, _⟩
  · exact Or.inl h
  · exact Or.inr ⟨g, 0, cap, hv, hl, hc, hm, fun i hi => by rw [Nat.zero_add]; exact hcell i hi⟩
theorem Reads.below {w w' : World} {v : Value} {l : List Int} (h : Reads w v l) (hb : Below w.heap.size w w') : Reads w' v l := by
  rcases h with h | ⟨b, off, c, hv, hl, hc, hm, hcell⟩
  · exact Or.inl h
  · exact Or.inr ⟨b, off, c, hv, Nat.lt_of_lt_of_le hl hb.size, hc, hm, fun i hi => (hb.cell (p := ⟨b, off + i, none⟩) hl).trans (hcell i hi)⟩
theorem Reads.alloc {w : World} {v : Value} {l : List Int} (h : Reads w v l) (o : Obj) : Reads (w.alloc o) v l := h.below ((Below.refl _ _).alloc (Nat.le_refl _) o)
theorem Reads.len {w : World} {v : Value} {l : List Int} (h : Reads w v l) : ∃ a c, v = .slice a l.length c := by
  rcases h with ⟨rfl, rfl⟩ | ⟨b, off, c, hv, _⟩
  · exact ⟨none, 0, rfl⟩
  · exact ⟨_, c, hv⟩
end Go.Proofs.YtbpcgcmlpgdmbaaDoor
