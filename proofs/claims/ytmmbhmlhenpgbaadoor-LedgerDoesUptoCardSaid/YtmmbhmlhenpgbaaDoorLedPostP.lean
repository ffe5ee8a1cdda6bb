/- Proved: what a ledger in memory becomes when a posting is laid behind its posts (no walk). -/
import Derived.Test.YtmmbhmlhenpgbaaDoorLedPost2
import Derived.Maps.OwnSet
import Derived.Deep.AppendLies
namespace Go.Proofs.YtmmbhmlhenpgbaaDoor
open Go.RowKit
open Led
set_option linter.unusedVariables false
set_option linter.unusedSimpArgs false
set_option maxRecDepth 100000
/-- Of what was there a call has turned the ledger's own two blocks alone. -/
structure Only (lb : Nat) (pv : Value) (W W' : World) : Prop where
  os : W'.os = W.os
  tape : W'.tape = W.tape
  output : W'.output = W.output
  size : W.heap.size ≤ W'.heap.size
  block : ∀ k, k < W.heap.size → k ≠ lb → some k ≠ pv.ownBlock → W'.heap[k]? = W.heap[k]?
theorem Only.of_below {lb : Nat} {pv : Value} {W W' : World} (B : Below W.heap.size W W') : Only lb pv W W' :=
  ⟨B.os, B.tape, B.output, B.size, fun k hk _ _ => B.block k hk⟩
theorem Only.to_below {lb base : Nat} {pv : Value} {W W' : World} (h : Only lb pv W W') (hl : base ≤ lb) (hp : ∀ k, pv.ownBlock = some k → base ≤ k) (hb : base ≤ W.heap.size) : Below base W W' :=
  ⟨h.os, h.tape, h.output, h.size, fun k hk => h.block k (by omega) (by omega) (fun e => by have := hp k e.symm; omega)⟩
theorem PostRow.ne {base : Nat} {W : World} {pv : Value} {q : List (Post × Value)} (h : PostRow base W pv q) {k : Nat} {o : Obj} (hk : W.heap[k]? = some o) (ho : ∀ (cur : Array Value) (fr : Nat × Nat), o ≠ Obj.cells cur 24 fr) : some k ≠ pv.ownBlock := by
  obtain ⟨_, ⟨rfl, _⟩ | ⟨g, cap, cur, rfl, _, h4, _⟩⟩ := h
  · intro e; cases e
  · intro e
    cases e
    rw [hk] at h4
    cases h4
    exact ho _ _ rfl
theorem LegRow.other {base : Nat} {W W' : World} {v : Value} {L : List Leg} (h : LegRow base W v L) (hb : ∀ (g : Nat) (cur : Array Value) (fr : Nat × Nat), W.heap[g]? = some (Obj.cells cur 41 fr) → W'.heap[g]? = W.heap[g]?) : LegRow base W' v L := by
  obtain ⟨h0, h1 | ⟨g, cap, cur, rfl, h3, h4, h5⟩⟩ := h
  · exact ⟨h0, Or.inl h1⟩
  · exact ⟨h0, Or.inr ⟨g, cap, cur, rfl, h3, by rw [hb g _ _ h4]; exact h4, h5⟩⟩
theorem accM.other {b n : Nat} {D : DataW Unit} {W W' : World} (h : accM W b n D) (hb : W'.heap[b]? = W.heap[b]?) : accM W' b n D := by
  obtain ⟨es, clock, h1, h2⟩ := h
  exact ⟨es, clock, hb.trans h1, h2⟩
theorem accM.tight {b n : Nat} {D : DataW Unit} {W : World} (h : accM W b n D) : accM W b (Maps.size D) D := by
  obtain ⟨es, clock, h1, F, hs, hD⟩ := h
  refine ⟨es, clock, h1, F, ?_, hD⟩
  rw [hD, Maps.size_eq, length_sorted]
  simp
theorem heap_cells2 {W : World} {b : Nat} {x y : Value} {t : TypeId} (h : W.heap[b]? = some (.cells #[x, y] t (0, 0))) :
    W.cell? ⟨b, 0, none⟩ = some x ∧ W.cell? ⟨b, 1, none⟩ = some y ∧ ∀ o, W.frozen? ⟨b, o, none⟩ = false :=
  ⟨by simp [World.cell?, h], by simp [World.cell?, h], fun o => by simp [World.frozen?, h]⟩
structure StandAt (base lb mb : Nat) (pv : Value) (q : List (Post × Value)) (D : DataW Unit) (ps : List Post) (w : World) (k : Nat) (pvk : Value) (qk : List (Post × Value)) (wr : World) : Prop where
  led : LedgerAt base lb pvk mb 256 qk D wr
  only : Only lb pv w wr
  blk : ∀ g, pvk.ownBlock = some g → pv.ownBlock = some g ∨ w.heap.size ≤ g
  fst : qk.map Prod.fst = q.map Prod.fst ++ ps.take k
theorem StandAt.start {base lb mb n mb' N : Nat} {pv : Value} {q : List (Post × Value)} {M D : DataW Unit} {ps : List Post} {w wr : World} (h : LedgerAt base lb pv mb n q M w) (hb : Below w.heap.size w wr) (hm : accM wr mb' N D) (hlo : w.heap.size ≤ mb') (hsz : Maps.size D ≤ 256) (hbase : base ≤ w.heap.size) :
    StandAt base lb mb' pv q D ps w 0 pv q (wr.setCell ⟨lb, 1, none⟩ (.map (some mb'))) := by
  have h' := h.below hb
  have hlt := lt_of_block h.hb
  have ho : ∀ k, k ≠ lb → (wr.setCell ⟨lb, 1, none⟩ (.map (some mb'))).heap[k]? = wr.heap[k]? := fun k hk => Below.heap_setCell _ _ _ _ hk
  have hps : ∀ g, pv.ownBlock = some g → g ≠ lb := by
    intro g hg e
    subst e
    exact h'.own.ne h'.hb (fun cur fr e => by cases e) hg.symm
  refine ⟨⟨?_, ?_, ?_, ?_, h.lo, by omega⟩, ?_, fun g hg => Or.inl hg, by simp⟩
  · exact heap_setCell_same _ _ _ _ _ _ h'.hb
  · obtain ⟨a0, a1 | ⟨g, cap, cur, rfl, a3, a4, a5⟩⟩ := h'.own
    · exact ⟨a0, Or.inl a1⟩
    · exact ⟨a0, Or.inr ⟨g, cap, cur, rfl, a3, by rw [ho g (hps g rfl)]; exact a4, a5⟩⟩
  · intro x hx
    refine ⟨(h'.legs x hx).1.other fun g cur fr hg => ho g ?_, (h'.legs x hx).2⟩
    rintro rfl
    rw [h'.hb] at hg; cases hg
  · have := hm.tight
    refine accM.other (World.ownsMap.mono this hsz) (ho mb' ?_)
    omega
  · exact ⟨hb.os, hb.tape, hb.output, by have := hb.size; simpa using this, fun k hk hk2 _ => (ho k hk2).trans (hb.block k hk)⟩
theorem StandAt.below {base lb mb : Nat} {pv : Value} {q : List (Post × Value)} {D : DataW Unit} {ps : List Post} {w : World} {k : Nat} {pvk : Value} {qk : List (Post × Value)} {wr W : World} (h : StandAt base lb mb pv q D ps w k pvk qk wr) (B : Below wr.heap.size wr W) : StandAt base lb mb pv q D ps w k pvk qk W :=
  ⟨h.led.below B, ⟨B.os.trans h.only.os, B.tape.trans h.only.tape, B.output.trans h.only.output, Nat.le_trans h.only.size B.size, fun j hj h1 h2 => (B.block j (Nat.lt_of_lt_of_le hj h.only.size)).trans (h.only.block j hj h1 h2)⟩, h.blk, h.fst⟩
theorem StandAt.push {base lb mb : Nat} {pv : Value} {q : List (Post × Value)} {D : DataW Unit} {ps : List Post} {w : World} {k : Nat} {pvk : Value} {qk : List (Post × Value)} {W W' : World} {x : Post} {lv : Value} {g cap : Nat}
    (h : StandAt base lb mb pv q D ps w k pvk qk W) (hx : ps[k]? = some x) (hr : right x = true) (hl : LegRow base W lv x.legs)
    (h1 : W'.ownsRow base 24 3 (.slice (some ⟨g, 0, none⟩) (qk.length + 1) cap) (qk.length + 1) (postCells qk ++ [.int .i64 x.day, .int .i64 x.id, lv])) (h2 : W.grownBy W' pvk.ownBlock) (h3 : pvk.ownBlock = some g ∨ w.heap.size ≤ g) :
    W'.cell? ⟨lb, 0, none⟩ = some pvk ∧ W'.frozen? ⟨lb, 0, none⟩ = false ∧ StandAt base lb mb pv q D ps w (k + 1) (.slice (some ⟨g, 0, none⟩) (qk.length + 1) cap) (qk ++ [(x, lv)]) (W'.setCell ⟨lb, 0, none⟩ (.slice (some ⟨g, 0, none⟩) (qk.length + 1) cap)) := by
  have hlt := lt_of_block h.led.hb
  have same : ∀ j o, W.heap[j]? = some o → (∀ (cur : Array Value) (fr : Nat × Nat), o ≠ Obj.cells cur 24 fr) → W'.heap[j]? = W.heap[j]? := fun j o hj ho => h2.block j (lt_of_block hj) (h.led.own.ne hj ho)
  have hlb : W'.heap[lb]? = some (.cells #[pvk, .map (some mb)] 71 (0, 0)) := (same lb _ h.led.hb (fun cur fr e => by cases e)).trans h.led.hb
  have hrow : PostRow base W' (.slice (some ⟨g, 0, none⟩) (qk.length + 1) cap) (qk ++ [(x, lv)]) := by
    show World.ownsRow W' base _ 3 _ (qk ++ [(x, lv)]).length (postCells (qk ++ [(x, lv)]))
    rw [List.length_append, postCells_append]
    exact h1
  have hgl : g ≠ lb := by
    rintro rfl
    exact hrow.ne hlb (fun cur fr e => by cases e) rfl
  have hob : ∀ j, j ≠ lb → (W'.setCell ⟨lb, 0, none⟩ (.slice (some ⟨g, 0, none⟩) (qk.length + 1) cap)).heap[j]? = W'.heap[j]? := fun j hj => Below.heap_setCell _ _ _ _ hj
  have c2 := heap_cells2 hlb
  refine ⟨c2.1, c2.2.2 0, ⟨⟨heap_setCell_same _ _ _ _ _ _ hlb, ?_, ?_, ?_, h.led.lo, h.led.lom⟩, ?_, ?_, ?_⟩⟩
  · obtain ⟨a0, a1 | ⟨g', cap', cur, hv, a3, a4, a5⟩⟩ := hrow
    · exact ⟨a0, Or.inl a1⟩
    · simp at hv
      obtain ⟨rfl, rfl⟩ := hv
      exact ⟨a0, Or.inr ⟨g, cap, cur, by simp, a3, by rw [hob g hgl]; exact a4, a5⟩⟩
  · intro y hy
    have step : ∀ {v : Value} {L : List Leg}, LegRow base W v L → LegRow base (W'.setCell ⟨lb, 0, none⟩ (.slice (some ⟨g, 0, none⟩) (qk.length + 1) cap)) v L := fun hv =>
      hv.other fun j cur fr hj => (hob j (by rintro rfl; rw [h.led.hb] at hj; cases hj)).trans (same j _ hj (fun cur fr e => by cases e))
    rw [List.mem_append] at hy
    rcases hy with hy | hy
    · exact ⟨step (h.led.legs y hy).1, (h.led.legs y hy).2⟩
    · simp at hy; subst hy; exact ⟨step hl, hr⟩
  · obtain ⟨es, clock, hmb, hrest⟩ := h.led.map
    have e1 := same mb _ hmb (fun cur fr e => by cases e)
    refine accM.other (accM.other h.led.map e1) (hob mb ?_)
    rintro rfl
    rw [h.led.hb] at hmb; cases hmb
  · refine ⟨h2.os.trans h.only.os, h2.tape.trans h.only.tape, h2.output.trans h.only.output, by have := h2.size; have := h.only.size; simp; omega, fun j hj h5 h6 => ?_⟩
    rw [hob j h5, h2.block j (Nat.lt_of_lt_of_le hj h.only.size) (fun e => ?_)]
    · exact h.only.block j hj h5 h6
    · rcases h.blk j e.symm with h7 | h7
      · exact h6 h7.symm
      · omega
  · intro j hj
    cases hj
    rcases h3 with h3 | h3
    · exact h.blk g h3
    · exact Or.inr h3
  · rw [List.map_append, h.fst, take_snoc ps k x hx, List.append_assoc]; rfl
theorem info_post : (Tryd.prog.info? 24).map (fun i => (i.zero, i.size, i.bytes)) = some (some (.agg #[.int .i64 0, .int .i64 0, .slice none 0 0]), 3, 40) := by kernel_rfl
end Go.Proofs.YtmmbhmlhenpgbaaDoor
