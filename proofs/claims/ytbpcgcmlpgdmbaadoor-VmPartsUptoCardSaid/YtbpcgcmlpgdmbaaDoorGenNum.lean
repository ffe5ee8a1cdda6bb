/- Proved: the reference's number, as a contract: is an instruction's N what its operation asks? -/
import Derived.Test.YtbpcgcmlpgdmbaaDoorGenHas
import Derived.Test.YtbpcgcmlpgdmbaaDoorGenMem
import Derived.Outline
import Derived.BigQuiet
import Derived.BigRegion
import Derived.Deep.QuietTactic
import Derived.Deep.RegionWith
import Derived.StillTailTactics
import Derived.Deep.Cut
import Derived.IntWalk
namespace Go.Proofs.YtbpcgcmlpgdmbaaDoor
open Go.RowKit
open Gen
set_option linter.unusedVariables false
set_option linter.unusedSimpArgs false
set_option maxRecDepth 100000
def CdBox (W : World) (b : Nat) (r : Int) (vw vi : Value) : Prop := W.heap[b]? = some (.cells #[.int .i64 r, vw, vi] 25 (0, 0))
def IxBox (W : World) (b : Nat) (x : Gen.Ix) : Prop := W.heap[b]? = some (.cells #[.int .i64 x.op, .int .i64 x.a, .int .i64 x.b, .int .i64 x.c, .int .i64 x.n, .string x.s, .int .i64 x.to] 39 (0, 0))
theorem two_boxes (W : World) (o1 o2 : Obj) : ((W.alloc o1).alloc o2).heap[W.heap.size]? = some o1 ∧ ((W.alloc o1).alloc o2).heap[(W.alloc o1).heap.size]? = some o2 ∧ Below W.heap.size W ((W.alloc o1).alloc o2) := by
  refine ⟨?_, heap_alloc_new _ _, ((Below.refl W.heap.size W).alloc (Nat.le_refl _) o1).alloc (by simp) o2⟩
  rw [Below.heap_alloc _ _ _ (by simp)]
  exact heap_alloc_new W o1
theorem bcells {W : World} {b : Nat} {xs : Array Value} {t : TypeId} (h : W.heap[b]? = some (.cells xs t (0, 0))) : ∀ i v, xs[i]? = some v → W.cell? ⟨b, i, none⟩ = some v := fun i v hv => by simp [World.cell?, h, hv]
end Go.Proofs.YtbpcgcmlpgdmbaaDoor
