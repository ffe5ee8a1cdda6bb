/- Proved: a bytecode as it lies in memory, as it is read (no walk). -/
import Derived.Test.YtbpcgcmlpgdmbaaDoorBase
import Derived.Test.YtbpcgcmlpgdmbaaDoorBytes
import Derived.Test.YtbpcgcmlpgdmbaaDoorGenPlain
namespace Go.Proofs.YtbpcgcmlpgdmbaaDoor
open Go.RowKit
open Gen
set_option linter.unusedVariables false
set_option linter.unusedSimpArgs false
def I64 (n : Int) : Prop := -9223372036854775808 ≤ n ∧ n ≤ 9223372036854775807
structure WtFits (w : Gen.Wt) : Prop where
  entry : I64 w.entry
  day : I64 w.day
  label : w.label.size ≤ 2000000
  first : I64 w.first
  second : I64 w.second
structure IxFits (x : Gen.Ix) : Prop where
  op : I64 x.op
  a : I64 x.a
  b : I64 x.b
  c : I64 x.c
  n : I64 x.n
  s : x.s.size ≤ 2000000
  to : I64 x.to
/-- Waits as they are read. -/
def WaitsAt (W : World) (v : Value) (l : List Gen.Wt) : Prop := ∃ p c, v = .slice p l.length c ∧ (l.length ≤ c ∧ c ≤ maxLen) ∧ ∀ (i : Nat) w, l[i]? = some w → ∃ b off, p = some ⟨b, off, none⟩ ∧ b < W.heap.size ∧
  (W.cell? ⟨b, off + i * 5, none⟩ = some (.int .i64 w.entry) ∧ W.cell? ⟨b, off + i * 5 + 1, none⟩ = some (.int .i64 w.day) ∧ W.cell? ⟨b, off + i * 5 + 2, none⟩ = some (.string w.label) ∧ W.cell? ⟨b, off + i * 5 + 3, none⟩ = some (.int .i64 w.first) ∧ W.cell? ⟨b, off + i * 5 + 4, none⟩ = some (.int .i64 w.second)) ∧ WtFits w
/-- Instructions as they are read. -/
def InsAt (W : World) (v : Value) (l : List Gen.Ix) : Prop := ∃ p c, v = .slice p l.length c ∧ (l.length ≤ c ∧ c ≤ maxLen) ∧ ∀ (i : Nat) x, l[i]? = some x → ∃ b off, p = some ⟨b, off, none⟩ ∧ b < W.heap.size ∧
  (W.cell? ⟨b, off + i * 7, none⟩ = some (.int .i64 x.op) ∧ W.cell? ⟨b, off + i * 7 + 1, none⟩ = some (.int .i64 x.a) ∧ W.cell? ⟨b, off + i * 7 + 2, none⟩ = some (.int .i64 x.b) ∧ W.cell? ⟨b, off + i * 7 + 3, none⟩ = some (.int .i64 x.c) ∧ W.cell? ⟨b, off + i * 7 + 4, none⟩ = some (.int .i64 x.n) ∧ W.cell? ⟨b, off + i * 7 + 5, none⟩ = some (.string x.s) ∧ W.cell? ⟨b, off + i * 7 + 6, none⟩ = some (.int .i64 x.to)) ∧ IxFits x
/-- A bytecode by value. -/
def CdAt (W : World) (v : Value) (c : Gen.Cd) : Prop := ∃ vw vi, v = .agg #[.int .i64 c.regs, vw, vi] ∧ WaitsAt W vw c.waits ∧ InsAt W vi c.ins ∧ I64 c.regs
theorem cell_below {W W' : World} {b j : Nat} {v : Value} (B : Below W.heap.size W W') (hb : b < W.heap.size) (h : W.cell? ⟨b, j, none⟩ = some v) : W'.cell? ⟨b, j, none⟩ = some v := (B.cell (p := ⟨b, j, none⟩) hb).trans h
theorem WaitsAt.below {W W' : World} {v : Value} {l : List Gen.Wt} (h : WaitsAt W v l) (B : Below W.heap.size W W') : WaitsAt W' v l := by
  obtain ⟨p, c, e, hl, h⟩ := h
  refine ⟨p, c, e, hl, fun i w hw => ?_⟩
  obtain ⟨b, off, e, hb, ⟨h0, h1, h2, h3, h4⟩, hf⟩ := h i w hw
  exact ⟨b, off, e, Nat.lt_of_lt_of_le hb B.size, ⟨cell_below B hb h0, cell_below B hb h1, cell_below B hb h2, cell_below B hb h3, cell_below B hb h4⟩, hf⟩
theorem InsAt.below {W W' : World} {v : Value} {l : List Gen.Ix} (h : InsAt W v l) (B : Below W.heap.size W W') : InsAt W' v l := by
  obtain ⟨p, c, e, hl, h⟩ := h
  refine ⟨p, c, e, hl, fun i w hw => ?_⟩
  obtain ⟨b, off, e, hb, ⟨h0, h1, h2, h3, h4, h5, h6⟩, hf⟩ := h i w hw
  exact ⟨b, off, e, Nat.lt_of_lt_of_le hb B.size, ⟨cell_below B hb h0, cell_below B hb h1, cell_below B hb h2, cell_below B hb h3, cell_below B hb h4, cell_below B hb h5, cell_below B hb h6⟩, hf⟩
theorem CdAt.below {W W' : World} {v : Value} {c : Gen.Cd} (h : CdAt W v c) (B : Below W.heap.size W W') : CdAt W' v c := by
  obtain ⟨vw, vi, e, h1, h2, h3⟩ := h
  exact ⟨vw, vi, e, h1.below B, h2.below B, h3⟩
end Go.Proofs.YtbpcgcmlpgdmbaaDoor
