/- Proved: how postings and their legs lie in memory, and that they stay so. -/
import Derived.Test.YtmmbhmlhenpgbaaDoorLedSums
import Derived.Test.YtmmbhmlhenpgbaaDoorLedBasic
import Derived.Maps.Own
import Derived.Maps.OwnOps
import Derived.Maps.RangeWalk
import Derived.Maps.Ext
namespace Go.Proofs.YtmmbhmlhenpgbaaDoor
open Go.RowKit
set_option linter.unusedVariables false
set_option linter.unusedSimpArgs false
namespace Led
/-- The cells of a list of legs from an address on. -/
def LegCells (w : World) (b off : Nat) (l : List Leg) : Prop := ∀ (i : Nat) (x : Leg), l[i]? = some x →
  w.cell? ⟨b, off + i * 3, none⟩ = some (.string x.party) ∧ w.cell? ⟨b, off + i * 3 + 1, none⟩ = some (.string x.cur) ∧ w.cell? ⟨b, off + i * 3 + 2, none⟩ = some (.int .i64 x.amount) ∧
  x.party.size ≤ 9223372036854775807 ∧ x.cur.size ≤ 9223372036854775807 ∧ -9223372036854775808 ≤ x.amount ∧ x.amount ≤ 9223372036854775807
/-- A slice that reads as a list of legs. -/
def LegsAt (w : World) (v : Value) (l : List Leg) : Prop :=
  ((∃ p0, v = .slice p0 0 0) ∧ l = []) ∨ ∃ b off cap, v = .slice (some ⟨b, off, none⟩) l.length cap ∧ l.length ≤ cap ∧ cap ≤ maxLen ∧ b < w.heap.size ∧ LegCells w b off l
theorem LegCells.below {w w' : World} {b off : Nat} {l : List Leg} (h : LegCells w b off l) (hb : b < w.heap.size) (B : Below w.heap.size w w') : LegCells w' b off l := by
  intro i x hx
  obtain ⟨h1, h2, h3, h4⟩ := h i x hx
  exact ⟨(B.cell (p := ⟨b, off + i * 3, none⟩) hb).trans h1, (B.cell (p := ⟨b, off + i * 3 + 1, none⟩) hb).trans h2, (B.cell (p := ⟨b, off + i * 3 + 2, none⟩) hb).trans h3, h4⟩
theorem LegsAt.below {w w' : World} {v : Value} {l : List Leg} (h : LegsAt w v l) (B : Below w.heap.size w w') : LegsAt w' v l := by
  rcases h with ⟨⟨p0, rfl⟩, rfl⟩ | ⟨b, off, cap, rfl, h1, h2, h3, h4⟩
  · exact Or.inl ⟨⟨_, rfl⟩, rfl⟩
  · exact Or.inr ⟨b, off, cap, rfl, h1, h2, Nat.lt_of_lt_of_le h3 B.size, h4.below h3 B⟩
end Led
/-- A map stays what it is while other blocks are written. -/
theorem owns_below {H : Type} {P : Program} {k : TypeId} {R : Value → Option (DataW H × List MemPlace)} {w w' : World} {b n : Nat} {D : DataW H} (h : w.ownsMap P k R b n D) (B : Below w.heap.size w w') : w'.ownsMap P k R b n D := by
  have hlt := h.lt
  obtain ⟨es, clock, hb, F, hs, hD⟩ := h
  exact ⟨es, clock, (B.block b hlt).trans hb, F, hs, hD⟩
theorem maxLen_is : maxLen = 9223372036854775807 := rfl
end Go.Proofs.YtmmbhmlhenpgbaaDoor
