/- Proved: the reference's Right, as a contract. -/
import Derived.Test.YtbpcgcmlpgdmbaaDoorGenRight
namespace Go.Proofs.YtbpcgcmlpgdmbaaDoor
open Go.RowKit
open Gen
set_option linter.unusedVariables false
set_option linter.unusedSimpArgs false
set_option maxRecDepth 100000
theorem CdAt.insCells {W : World} {r : Int} {vw : Value} {pi : Option Addr} {n ci : Nat} {c : Gen.Cd} (h : CdAt W (.agg #[.int .i64 r, vw, .slice pi n ci]) c) {i : Nat} {x : Gen.Ix} (hx : c.ins[i]? = some x) : ∃ b off, pi = some ⟨b, off, none⟩ ∧ W.cell? ⟨b, off + i * 7, none⟩ = some (.int .i64 x.op) := by
  obtain ⟨vw', vi', e, _, ⟨p, cc, e2, _, hic⟩, _⟩ := h
  simp only [Value.agg.injEq, Array.mk.injEq, List.cons.injEq, and_true] at e
  obtain ⟨_, _, e3⟩ := e
  rw [e2] at e3
  obtain ⟨rfl, _, _⟩ := Value.slice.inj e3
  obtain ⟨b, off, e4, _, ⟨h0, _⟩, _⟩ := hic i x hx
  exact ⟨b, off, e4, h0⟩
theorem CdAt.waitCells {W : World} {r : Int} {vi : Value} {pw : Option Addr} {n cw : Nat} {c : Gen.Cd} (h : CdAt W (.agg #[.int .i64 r, .slice pw n cw, vi]) c) {i : Nat} {x : Gen.Wt} (hx : c.waits[i]? = some x) : ∃ b off, pw = some ⟨b, off, none⟩ ∧ (W.cell? ⟨b, off + i * 5, none⟩ = some (.int .i64 x.entry) ∧ W.cell? ⟨b, off + i * 5 + 1, none⟩ = some (.int .i64 x.day) ∧ W.cell? ⟨b, off + i * 5 + 2, none⟩ = some (.string x.label) ∧ W.cell? ⟨b, off + i * 5 + 3, none⟩ = some (.int .i64 x.first) ∧ W.cell? ⟨b, off + i * 5 + 4, none⟩ = some (.int .i64 x.second)) ∧ WtFits x := by
  obtain ⟨vw', vi', e, ⟨p, cc, e2, _, hic⟩, _, _⟩ := h
  simp only [Value.agg.injEq, Array.mk.injEq, List.cons.injEq, and_true] at e
  obtain ⟨_, e3, _⟩ := e
  rw [e2] at e3
  obtain ⟨rfl, _, _⟩ := Value.slice.inj e3
  obtain ⟨b, off, e4, _, hcells, hf⟩ := hic i x hx
  exact ⟨b, off, e4, hcells, hf⟩
end Go.Proofs.YtbpcgcmlpgdmbaaDoor
