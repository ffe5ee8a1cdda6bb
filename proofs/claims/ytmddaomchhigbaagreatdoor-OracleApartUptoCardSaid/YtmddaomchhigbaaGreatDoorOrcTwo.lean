/- Proved: two tables beside each other: a step of one leaves the other one, the operation's box and the bytes that are taken (no walk). -/
import Derived.Test.YtmddaomchhigbaaGreatDoorOrcOps
namespace Go.Proofs.YtmddaomchhigbaaGreatDoor
open Go.RowKit Go.Maps
open Led Orc
set_option linter.unusedVariables false
set_option linter.unusedSimpArgs false
set_option maxRecDepth 100000
/-- Two tables. -/
structure Two (base ta ma tb mb : Nat) (w : World) (Qa Qb : List Orc.Kb) (W : World) : Prop where
  a : TabAt base ta ma Qa W
  b : TabAt base tb mb Qb W
  dis : ∀ k, Foot ta ma Qa k → ¬ Foot tb mb Qb k
  bel : Below base w W
  sz : base ≤ W.heap.size
theorem Two.below {base ta ma tb mb : Nat} {w : World} {Qa Qb : List Orc.Kb} {W W' : World} (h : Two base ta ma tb mb w Qa Qb W) (B : Below W.heap.size W W') : Two base ta ma tb mb w Qa Qb W' :=
  ⟨h.a.below B, h.b.below B, h.dis, ⟨B.os.trans h.bel.os, B.tape.trans h.bel.tape, B.output.trans h.bel.output, Nat.le_trans h.bel.size B.size, fun k hk => (B.block k (Nat.lt_of_lt_of_le hk h.sz)).trans (h.bel.block k hk)⟩, Nat.le_trans h.sz B.size⟩
theorem Two.swap {base ta ma tb mb : Nat} {w : World} {Qa Qb : List Orc.Kb} {W : World} (h : Two base ta ma tb mb w Qa Qb W) : Two base tb mb ta ma w Qb Qa W :=
  ⟨h.b, h.a, fun k hb ha => h.dis k ha hb, h.bel, h.sz⟩
/-- What is none of both tables' stays. -/
def Free (ta ma tb mb : Nat) (Qa Qb : List Orc.Kb) (W : World) (k : Nat) : Prop := k < W.heap.size ∧ ¬ Foot ta ma Qa k ∧ ¬ Foot tb mb Qb k
theorem Two.stepA {base ta ma tb mb : Nat} {w : World} {Qa Qb : List Orc.Kb} {L' : List Orc.Kn} {W W' : World} (h : Two base ta ma tb mb w Qa Qb W) (s : TabStep base ta ma Qa L' W W') :
    ∃ Qa', Qa'.map (·.kn) = L' ∧ Two base ta ma tb mb w Qa' Qb W' ∧ ∀ k, Free ta ma tb mb Qa Qb W k → Free ta ma tb mb Qa' Qb W' k ∧ W'.heap[k]? = W.heap[k]? := by
  obtain ⟨Q', e, t, o, f⟩ := TabStep.out h.a s
  refine ⟨Q', e, ⟨t, h.b.keep fun k hk => (f k (h.b.foot hk).2 (fun ha => h.dis k ha hk)).2, fun k ha hb => (f k (h.b.foot hb).2 (fun ha => h.dis k ha hb)).1 ha, ?_, Nat.le_trans h.sz o.size⟩, fun k hk => ?_⟩
  · have := o.to_below (base := base) (fun k hk => (h.a.foot hk).1) h.sz
    exact ⟨this.os.trans h.bel.os, this.tape.trans h.bel.tape, this.output.trans h.bel.output, Nat.le_trans h.bel.size o.size, fun k hk => (this.block k hk).trans (h.bel.block k hk)⟩
  · obtain ⟨h1, h2, h3⟩ := hk
    obtain ⟨g1, g2⟩ := f k h1 h2
    exact ⟨⟨Nat.lt_of_lt_of_le h1 o.size, g1, h3⟩, g2⟩
theorem Two.stepB {base ta ma tb mb : Nat} {w : World} {Qa Qb : List Orc.Kb} {L' : List Orc.Kn} {W W' : World} (h : Two base ta ma tb mb w Qa Qb W) (s : TabStep base tb mb Qb L' W W') :
    ∃ Qb', Qb'.map (·.kn) = L' ∧ Two base ta ma tb mb w Qa Qb' W' ∧ ∀ k, Free ta ma tb mb Qa Qb W k → Free ta ma tb mb Qa Qb' W' k ∧ W'.heap[k]? = W.heap[k]? := by
  obtain ⟨Q', e, t, f⟩ := h.swap.stepA s
  refine ⟨Q', e, t.swap, fun k ⟨h1, h2, h3⟩ => ?_⟩
  obtain ⟨⟨g1, g2, g3⟩, g4⟩ := f k ⟨h1, h3, h2⟩
  exact ⟨⟨g1, g3, g2⟩, g4⟩
/-- Both tables, the operation's box, the bytes. -/
structure Trn (base ta ma tb mb : Nat) (w : World) (xb : Nat) (o : Opv) (rv v : Value) (l : List UInt8) (Qa Qb : List Orc.Kb) (W : World) : Prop where
  two : Two base ta ma tb mb w Qa Qb W
  box : OpBox W xb o rv
  bx : Free ta ma tb mb Qa Qb W xb
  raw : (Reads W v (nums l) ∧ ∀ k, sliceBlk v = some k → Free ta ma tb mb Qa Qb W k) ∨ (l = [] ∧ ∃ p, v = .slice p 0 0)
theorem Trn.reads {base ta ma tb mb : Nat} {w : World} {xb : Nat} {o : Opv} {rv v : Value} {l : List UInt8} {Qa Qb : List Orc.Kb} {W : World} (h : Trn base ta ma tb mb w xb o rv v l Qa Qb W) : Reads0 W v l := h.raw.imp (fun h => h.1) id
theorem Free.below {ta ma tb mb : Nat} {Qa Qb : List Orc.Kb} {W W' : World} {k : Nat} (h : Free ta ma tb mb Qa Qb W k) (B : W.heap.size ≤ W'.heap.size) : Free ta ma tb mb Qa Qb W' k := ⟨Nat.lt_of_lt_of_le h.1 B, h.2⟩
theorem Trn.below {base ta ma tb mb : Nat} {w : World} {xb : Nat} {o : Opv} {rv v : Value} {l : List UInt8} {Qa Qb : List Orc.Kb} {W W' : World} (h : Trn base ta ma tb mb w xb o rv v l Qa Qb W) (B : Below W.heap.size W W') : Trn base ta ma tb mb w xb o rv v l Qa Qb W' :=
  ⟨h.two.below B, block_kept B h.box, h.bx.below B.size, h.raw.imp (fun h => ⟨h.1.below B, fun k hk => (h.2 k hk).below B.size⟩) id⟩
theorem Trn.stepA {base ta ma tb mb : Nat} {w : World} {xb : Nat} {o : Opv} {rv v : Value} {l : List UInt8} {Qa Qb : List Orc.Kb} {L' : List Orc.Kn} {W W' : World} (h : Trn base ta ma tb mb w xb o rv v l Qa Qb W) (s : TabStep base ta ma Qa L' W W') :
    ∃ Qa', Qa'.map (·.kn) = L' ∧ Trn base ta ma tb mb w xb o rv v l Qa' Qb W' ∧ ∀ k, Free ta ma tb mb Qa Qb W k → Free ta ma tb mb Qa' Qb W' k ∧ W'.heap[k]? = W.heap[k]? := by
  obtain ⟨Q', e, t, f⟩ := h.two.stepA s
  exact ⟨Q', e, ⟨t, (f xb h.bx).2.trans h.box, (f xb h.bx).1, h.raw.imp (fun h => ⟨h.1.same fun b hb => (f b (h.2 b hb)).2, fun k hk => (f k (h.2 k hk)).1⟩) id⟩, f⟩
theorem Trn.stepB {base ta ma tb mb : Nat} {w : World} {xb : Nat} {o : Opv} {rv v : Value} {l : List UInt8} {Qa Qb : List Orc.Kb} {L' : List Orc.Kn} {W W' : World} (h : Trn base ta ma tb mb w xb o rv v l Qa Qb W) (s : TabStep base tb mb Qb L' W W') :
    ∃ Qb', Qb'.map (·.kn) = L' ∧ Trn base ta ma tb mb w xb o rv v l Qa Qb' W' ∧ ∀ k, Free ta ma tb mb Qa Qb W k → Free ta ma tb mb Qa Qb' W' k ∧ W'.heap[k]? = W.heap[k]? := by
  obtain ⟨Q', e, t, f⟩ := h.two.stepB s
  exact ⟨Q', e, ⟨t, (f xb h.bx).2.trans h.box, (f xb h.bx).1, h.raw.imp (fun h => ⟨h.1.same fun b hb => (f b (h.2 b hb)).2, fun k hk => (f k (h.2 k hk)).1⟩) id⟩, f⟩
/-- The operation's box is made. -/
theorem Two.turn {base ta ma tb mb : Nat} {w : World} {o : Opv} {rv : Value} {Qa Qb : List Orc.Kb} {W : World} (h : Two base ta ma tb mb w Qa Qb W) (hr : Reads0 w rv o.raw) (hw : w.heap.size ≤ base) :
    Trn base ta ma tb mb w W.heap.size o rv rv o.raw Qa Qb (W.alloc (.cells #[.int .i64 o.kind, .string o.feed, .string o.key, .string o.tip.feed, .int .i64 o.tip.day, .int .i64 o.tip.n, .int .i64 o.tip.seq, .string o.tip.tag, rv, .int .i64 o.today] 42)) := by
  have B := (Below.refl W.heap.size W).alloc (Nat.le_refl _) (.cells #[.int .i64 o.kind, .string o.feed, .string o.key, .string o.tip.feed, .int .i64 o.tip.day, .int .i64 o.tip.n, .int .i64 o.tip.seq, .string o.tip.tag, rv, .int .i64 o.today] 42)
  have T := h.below B
  have hb0 : Below w.heap.size w W := ⟨h.bel.os, h.bel.tape, h.bel.output, h.bel.size, fun k hk => h.bel.block k (Nat.lt_of_lt_of_le hk hw)⟩
  refine ⟨T, heap_alloc_new W _, ⟨by simp, fun hF => ?_, fun hF => ?_⟩, hr.imp (fun hr => ⟨(hr.below hb0).below B, fun k hk => ⟨Reads.blk ((hr.below hb0).below B) hk, fun hF => ?_, fun hF => ?_⟩⟩) id⟩
  · have := (h.a.foot hF).2; omega
  · have := (h.b.foot hF).2; omega
  · have := (h.a.foot hF).1; have := Reads.blk hr hk; omega
  · have := (h.b.foot hF).1; have := Reads.blk hr hk; omega
/-- Other bytes are taken: fresh ones. -/
theorem Trn.bytes {base ta ma tb mb : Nat} {w : World} {xb : Nat} {o : Opv} {rv v v' : Value} {l l' : List UInt8} {Qa Qb : List Orc.Kb} {W W' : World} (h : Trn base ta ma tb mb w xb o rv v l Qa Qb W) (B : Below W.heap.size W W') (hv : Owns W.heap.size W' v' (nums l')) : Trn base ta ma tb mb w xb o rv v' l' Qa Qb W' := by
  have T := h.below B
  refine ⟨T.two, T.box, T.bx, Or.inl ⟨hv.reads, fun k hk => ⟨Reads.blk hv.reads hk, fun hF => ?_, fun hF => ?_⟩⟩⟩
  · have := (h.two.a.foot hF).2; have := hv.blk hk; omega
  · have := (h.two.b.foot hF).2; have := hv.blk hk; omega
theorem Two.names {base ta ma tb mb : Nat} {w : World} {Qa Qb : List Orc.Kb} {W : World} (h : Two base ta ma tb mb w Qa Qb W) : (Qa.map (·.kn)).Pairwise fun a b => a.name ≠ b.name := List.pairwise_map.2 h.a.names
theorem Two.free_new {base ta ma tb mb : Nat} {w : World} {Qa Qb : List Orc.Kb} {W : World} (h : Two base ta ma tb mb w Qa Qb W) (o : Obj) : Free ta ma tb mb Qa Qb (W.alloc o) W.heap.size :=
  ⟨by simp, fun hF => by have := (h.a.foot hF).2; omega, fun hF => by have := (h.b.foot hF).2; omega⟩
end Go.Proofs.YtmddaomchhigbaaGreatDoor
