/- Proved: the reference's wait, as a contract. -/
import Derived.Test.YtbpcgcmlpgdmbaaDoorGenText
import Derived.Deep.DeepCutAuto
namespace Go.Proofs.YtbpcgcmlpgdmbaaDoor
open Go.RowKit
open Gen
set_option linter.unusedVariables false
set_option linter.unusedSimpArgs false
set_option maxRecDepth 100000
def WtBox (W : World) (b : Nat) (x : Gen.Wt) : Prop := W.heap[b]? = some (.cells #[.int .i64 x.entry, .int .i64 x.day, .string x.label, .int .i64 x.first, .int .i64 x.second] 56 (0, 0))
structure WSt (w : World) (b0 b1 : Nat) (vw vi : Value) (c : Gen.Cd) (x : Gen.Wt) (W : World) : Prop where
  bel : Below w.heap.size w W
  cb : CdBox W b0 c.regs vw vi
  xb : WtBox W b1 x
  cd : CdAt W (.agg #[.int .i64 c.regs, vw, vi]) c
theorem box_below {W W' : World} {b : Nat} {o : Obj} (B : Below W.heap.size W W') (h : W.heap[b]? = some o) : W'.heap[b]? = some o := (B.block b (lt_of_block h)).trans h
theorem WSt.below {w : World} {b0 b1 : Nat} {vw vi : Value} {c : Gen.Cd} {x : Gen.Wt} {W W' : World} (h : WSt w b0 b1 vw vi c x W) (B : Below W.heap.size W W') : WSt w b0 b1 vw vi c x W' :=
  ⟨Below.more h.bel B, box_below B h.cb, box_below B h.xb, h.cd.below B⟩
end Go.Proofs.YtbpcgcmlpgdmbaaDoor
