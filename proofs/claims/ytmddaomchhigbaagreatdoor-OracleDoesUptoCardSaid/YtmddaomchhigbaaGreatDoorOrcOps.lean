/- Proved: a script of operations as it lies in memory, one operation in a box, and what tables leave as it was (no walk). -/
import Derived.Test.YtmddaomchhigbaaGreatDoorOrcShown
namespace Go.Proofs.YtmddaomchhigbaaGreatDoor
open Go.RowKit Go.Maps
open Led Orc
set_option linter.unusedVariables false
set_option linter.unusedSimpArgs false
set_option maxRecDepth 100000
structure Opv where
  kind : Int
  feed : ByteArray
  key : ByteArray
  tip : Orc.Tip
  raw : List UInt8
  today : Int
structure OpFits (o : Opv) : Prop where
  kind : -9223372036854775808 ≤ o.kind ∧ o.kind ≤ 9223372036854775807
  feed : o.feed.size ≤ 2000000
  key : o.key.size ≤ 2000000
  tip : Orc.Fits o.tip
  raw : o.raw.length ≤ 100000000
def OpBox (W : World) (b : Nat) (o : Opv) (rv : Value) : Prop :=
  W.heap[b]? = some (.cells #[.int .i64 o.kind, .string o.feed, .string o.key, .string o.tip.feed, .int .i64 o.tip.day, .int .i64 o.tip.n, .int .i64 o.tip.seq, .string o.tip.tag, rv, .int .i64 o.today] 42 (0, 0))
theorem OpBox.cells {W : World} {b : Nat} {o : Opv} {rv : Value} (h : OpBox W b o rv) :
    W.cell? ⟨b, 0, none⟩ = some (.int .i64 o.kind) ∧ W.cell? ⟨b, 1, none⟩ = some (.string o.feed) ∧ W.cell? ⟨b, 2, none⟩ = some (.string o.key) ∧
    (W.cell? ⟨b, 3, none⟩ = some (.string o.tip.feed) ∧ W.cell? ⟨b, 4, none⟩ = some (.int .i64 o.tip.day) ∧ W.cell? ⟨b, 5, none⟩ = some (.int .i64 o.tip.n) ∧ W.cell? ⟨b, 6, none⟩ = some (.int .i64 o.tip.seq) ∧ W.cell? ⟨b, 7, none⟩ = some (.string o.tip.tag)) ∧
    W.cell? ⟨b, 8, none⟩ = some rv ∧ W.cell? ⟨b, 9, none⟩ = some (.int .i64 o.today) := by
  obtain ⟨c, _⟩ := block_cells h
  exact ⟨c 0 _ rfl, c 1 _ rfl, c 2 _ rfl, ⟨c 3 _ rfl, c 4 _ rfl, c 5 _ rfl, c 6 _ rfl, c 7 _ rfl⟩, c 8 _ rfl, c 9 _ rfl⟩
/-- A script as it is read. -/
def ScriptAt (W : World) (v : Value) (l : List Opv) : Prop := ∃ p c, v = .slice p l.length c ∧ (l.length : Int) ≤ 9223372036854775807 ∧ ∀ (i : Nat) (o : Opv), l[i]? = some o → ∃ b off rv, p = some ⟨b, off, none⟩ ∧ b < W.heap.size ∧
    (W.cell? ⟨b, off + i * 10, none⟩ = some (.int .i64 o.kind) ∧ W.cell? ⟨b, off + i * 10 + 1, none⟩ = some (.string o.feed) ∧ W.cell? ⟨b, off + i * 10 + 2, none⟩ = some (.string o.key) ∧
    (W.cell? ⟨b, off + i * 10 + 3, none⟩ = some (.string o.tip.feed) ∧ W.cell? ⟨b, off + i * 10 + 4, none⟩ = some (.int .i64 o.tip.day) ∧ W.cell? ⟨b, off + i * 10 + 5, none⟩ = some (.int .i64 o.tip.n) ∧ W.cell? ⟨b, off + i * 10 + 6, none⟩ = some (.int .i64 o.tip.seq) ∧ W.cell? ⟨b, off + i * 10 + 7, none⟩ = some (.string o.tip.tag)) ∧
    W.cell? ⟨b, off + i * 10 + 8, none⟩ = some rv ∧ W.cell? ⟨b, off + i * 10 + 9, none⟩ = some (.int .i64 o.today)) ∧ Reads0 W rv o.raw ∧ OpFits o
theorem ScriptAt.below {W W' : World} {v : Value} {l : List Opv} (h : ScriptAt W v l) (B : Below W.heap.size W W') : ScriptAt W' v l := by
  obtain ⟨p, c, e, hl, h⟩ := h
  refine ⟨p, c, e, hl, fun i o hx => ?_⟩
  obtain ⟨b, off, rv, e, hb, ⟨h0, h1, h2, ⟨h3, h4, h5, h6, h7⟩, h8, h9⟩, hr, hf⟩ := h i o hx
  have go : ∀ (j : Nat) (x : Value), W.cell? ⟨b, j, none⟩ = some x → W'.cell? ⟨b, j, none⟩ = some x := fun j x hx => (B.cell (p := ⟨b, j, none⟩) hb).trans hx
  exact ⟨b, off, rv, e, Nat.lt_of_lt_of_le hb B.size, ⟨go _ _ h0, go _ _ h1, go _ _ h2, ⟨go _ _ h3, go _ _ h4, go _ _ h5, go _ _ h6, go _ _ h7⟩, go _ _ h8, go _ _ h9⟩, hr.below B, hf⟩
/-- A table's step leaves all other blocks. -/
theorem TabStep.out {base tb mb : Nat} {Q : List Orc.Kb} {L' : List Orc.Kn} {W W' : World} (h : TabAt base tb mb Q W) (s : TabStep base tb mb Q L' W W') :
    ∃ Q', Q'.map (·.kn) = L' ∧ TabAt base tb mb Q' W' ∧ OnlyF (Foot tb mb Q) W W' ∧ ∀ k, k < W.heap.size → ¬ Foot tb mb Q k → ¬ Foot tb mb Q' k ∧ W'.heap[k]? = W.heap[k]? := by
  obtain ⟨Q', e, t, o, f⟩ := s
  refine ⟨Q', e, t, o, fun k hk hF => ⟨fun hF' => ?_, o.block k hk hF⟩⟩
  rcases f k hF' with h1 | h1
  · exact hF h1
  · omega
theorem TabAt.less {base base' tb mb : Nat} {Q : List Orc.Kb} {W : World} (h : TabAt base tb mb Q W) (hb : base' ≤ base) : TabAt base' tb mb Q W := by
  refine ⟨h.hb, h.map, fun q hq => ⟨(h.kn q hq).blk, ?_, Nat.le_trans hb (h.kn q hq).lo⟩, h.names, h.blocks, h.rows, h.fits, ⟨Nat.le_trans hb h.lo.1, Nat.le_trans hb h.lo.2⟩, h.room⟩
  obtain ⟨h1, h2 | ⟨g, cap, cur, hv, hg, r⟩⟩ := (h.kn q hq).row
  · exact ⟨h1, Or.inl h2⟩
  · exact ⟨h1, Or.inr ⟨g, cap, cur, hv, Nat.le_trans hb hg, r⟩⟩
/-- The block of a slice of bytes. -/
def sliceBlk : Value → Option Nat
  | .slice (some a) _ _ => some a.block
  | _ => none
theorem Reads.same {w w' : World} {v : Value} {l : List Int} (h : Reads w v l) (hb : ∀ b, sliceBlk v = some b → w'.heap[b]? = w.heap[b]?) : Reads w' v l := by
  rcases h with h | ⟨b, off, c, hv, hl, hc, hm, hcell⟩
  · exact Or.inl h
  · have he : w'.heap[b]? = w.heap[b]? := hb b (by rw [hv]; rfl)
    have hl' : b < w'.heap.size := by
      rcases Nat.lt_or_ge b w'.heap.size with h1 | h1
      · exact h1
      · rw [Array.getElem?_eq_none h1] at he
        rw [Array.getElem?_eq_getElem hl] at he
        cases he
    exact Or.inr ⟨b, off, c, hv, hl', hc, hm, fun i hi => by rw [← hcell i hi]; simp only [World.cell?, he]⟩
theorem Reads.blk {w : World} {v : Value} {l : List Int} (h : Reads w v l) {b : Nat} (hb : sliceBlk v = some b) : b < w.heap.size := by
  rcases h with ⟨rfl, _⟩ | ⟨b', off, c, rfl, hl, _⟩
  · cases hb
  · cases hb; exact hl
theorem Owns.blk {base : Nat} {w : World} {v : Value} {l : List Int} (h : Owns base w v l) {b : Nat} (hb : sliceBlk v = some b) : base ≤ b := by
  rcases h.shape with ⟨rfl, _⟩ | ⟨g, cap, rfl, hl, _⟩
  · cases hb
  · cases hb; exact hl
end Go.Proofs.YtmddaomchhigbaaGreatDoor
