/- Proved: slices.AppendSeq, slices.Collect at the ledger's accounts, over whatever iterator keeps its word. -/
import Derived.Test.YtmmbhmlhenpgbaaDoorLedSort
import Derived.RangeFuncBox
import Derived.Maps.AppendAt
namespace Go.Proofs.YtmmbhmlhenpgbaaDoor
open Go.RowKit Go.Shelf Go.Sort
open Led
set_option linter.unusedVariables false
set_option linter.unusedSimpArgs false
set_option maxRecDepth 100000
attribute [local go_sem] Oper.semAt_some

theorem info_acc : (Tryd.prog.info? 75).map (fun i => (i.zero, i.size, i.bytes)) = some (some (.agg #[.string ⟨#[]⟩, .string ⟨#[]⟩]), 2, 32) := by kernel_rfl
/-- The cells of a row of accounts. -/
def accCells : List Acc → List Value
  | [] => []
  | x :: t => .string x.p :: .string x.c :: accCells t
theorem accCells_append (l m : List Acc) : accCells (l ++ m) = accCells l ++ accCells m := by
  induction l with
  | nil => rfl
  | cons x t ih => simp only [List.cons_append, accCells, ih]
theorem accCells_len (l : List Acc) : (accCells l).length = l.length * 2 := by
  induction l with
  | nil => rfl
  | cons x t ih => simp only [List.length_cons, accCells, ih]; omega
theorem cell_two_new (w : World) (x y : Value) (t : TypeId) : ∀ j u, [x, y][j]? = some u → (w.alloc (.cells #[x, y] t)).cell? ((⟨w.heap.size, 0, none⟩ : Addr).add j) = some u := by
  intro j u hj
  rw [add_gen, Nat.zero_add]
  match j, hj with
  | 0, hj => simp at hj; subst hj; exact new_cell rfl rfl
  | 1, hj => simp at hj; subst hj; exact new_cell rfl rfl
  | k + 2, hj => simp at hj
/-- A loop's variable in a block of its own. -/
def VarAcc (x : Acc) (W : World) (Bx : Nat) : Prop := W.heap[Bx]? = some (.cells #[.string x.p, .string x.c] 75 (0, 0))
theorem varAcc_kept {x : Acc} {W W' : World} {Bx : Nat} {row : Option Nat} (h : VarAcc x W Bx) (hg : W.grownBy W' row) (hr : ∀ r, row = some r → ∃ o : Obj, W.heap[r]? = some o ∧ o.isCells = false) : VarAcc x W' Bx :=
  (hg.block Bx (lt_of_block h) (fun e => by obtain ⟨o, ho, hc⟩ := hr Bx e.symm; rw [show W.heap[Bx]? = _ from h] at ho; cases ho; cases hc)).trans h

set_option maxHeartbeats 2000000 in
theorem appendAcc_in (F : Fence) (n : Nat) (hf : F.fn 77) (hro : F.round = none) (hn : 2 ≤ n) (g : Nat) (lb : Array Value) (hFg : F.fn g) (eg : ∀ args w, (callFunc g args).run Tryd.prog w = .ok (.enter g args) w)
    (S Sp : List Acc → Prop) (N : Nat) (hN : N ≤ 1000000) (w : World) (hseq : SeqStops F (n - 1) Tryd.prog g lb Acc.v S Sp N w) :
    CallsIn F n Tryd.prog 77 #[.slice none 0 0, .func (.func g) #[] lb] w fun e w' => ∃ (v : Value) (ss : List Acc), e = .returned v ∧ S ss ∧ w'.ownsRow w.heap.size 75 2 v ss.length (accCells ss) ∧ Below w.heap.size w w' := by
  have h1 : 1 ≤ n := by omega
  obtain ⟨i0, hi, hz0, hz1, hz2⟩ := info_parts info_acc
  refine callsIn_of_wp_marks Tryd.func77 rfl hf ?_ hro
  simp only [Tryd.ntmps77, List.size_toArray, List.length_cons, List.length_nil, Nat.reduceAdd, Nat.reduceSub, Array.replicate_succ, Array.replicate_zero, List.push_toArray, List.append_toArray, List.nil_append, List.cons_append]
  gi_wp2
  have bO := Boxed.new w 97 (.slice none 0 0)
  have hB0 : Below w.heap.size w (w.alloc (.cells #[.slice none 0 0] 97)) := (Below.refl _ w).alloc (Nat.le_refl _) _
  have hsz : (w.alloc (.cells #[.slice none 0 0] 97)).heap.size = w.heap.size + 1 := by simp
  obtain ⟨W0, hW0⟩ : ∃ W0, w.alloc (.cells #[.slice none 0 0] 97) = W0 := ⟨_, rfl⟩
  rw [hW0] at bO hB0 hsz ⊢
  clear hW0
  refine wpIn_rangeFunc_ownH hro h1 (gf := g) (lb := lb) rfl hFg eg hseq walksK_t walksK_b hB0 (fun _ => rfl)
    (fun pre W => (∃ v, Boxed W w.heap.size 97 v ∧ W.ownsRow w.heap.size 75 2 v pre.length (accCells pre) ∧ True) ∧ Below w.heap.size w W)
    (fun _ _ _ => False)
    (OwnFrom.and (Own.from (holdsRow_own w.heap.size w.heap.size 97 75 2 (fun pre => pre.length) (fun pre => accCells pre) (fun _ _ => True)) _) (ownFrom_below (Nat.le_refl _) (by omega)))
    (fun _ _ _ _ _ hs _ _ => hs)
    ⟨⟨_, bO, World.ownsRow_nil _ _ _ _, trivial⟩, hB0⟩
    (fun x a' W => ∃ Bx, VarAcc x W Bx ∧ a' = { tmps := #[.slice none 0 0, .func (.func g) #[] lb, .pointer (some ⟨w.heap.size, 0, none⟩), undef, .slice none 0 0, .pointer (some ⟨Bx, 0, none⟩), .func (.func g) #[] lb, x.v, undef, undef, undef, undef, undef], defers := [] })
    (fun x a' s X Y row hs hg hr => by obtain ⟨Bx, h2, h3⟩ := hs; exact ⟨Bx, varAcc_kept h2 hg (fun r e => (hr r e).2), h3⟩)
    ?assign ?body ?done ?stop
  case assign =>
    rintro l pre x W K ⟨⟨v, hv, hrow, _⟩, hB⟩ hK
    have hxv : x.v = .agg #[.string x.p, .string x.c] := rfl
    rw [hxv] at hK
    simp only [hxv]
    gi_wp2
    exact hK _ _ ((KeepsOthers.alloc _ _).from _) (KeepsWalks.alloc _ _) ⟨⟨v, hv.alloc _, hrow.alloc _, trivial⟩, hB.trans ((Below.refl _ W).alloc hB.size _)⟩ ⟨W.heap.size, heap_alloc_new _ _, rfl⟩
  case body =>
    rintro l pre x a' W hl ⟨r, hr⟩ ⟨⟨v, hv, hrow, _⟩, hB⟩ ⟨Bx, bX, rfl⟩ hlt
    have hc := hv.cell
    obtain ⟨x0, x1, _⟩ := heap_cells2 bX
    gi_wp2_with (gi_at_builtin; refine wpListIn_append_own _ rfl _ _ 97 rfl w.heap.size 75 i0 (.agg #[.string ⟨#[]⟩, .string ⟨#[]⟩]) 2 32 Tryd.underlying97 hi hz0 hz1 hz2 rfl (by decide) _ _ _ rfl (hrow.alloc _) ⟨W.heap.size, 0, none⟩ 1 1 [.string x.p, .string x.c] rfl rfl (cell_two_new _ _ _ _) (by simp [Value.oneCell']) (by unfold maxLen; omega) (by omega) (by have := hB.size; simp; omega) ?_; intro v' w1 hown' hgrow _; obtain ⟨g', cap', rfl⟩ := ownsRow_succ hown'; obtain ⟨hv1, hv2, hr2, hk2, hb2⟩ := hv.appended (by decide) hrow hB.size (Nat.le_refl _) hown' hgrow; have hc1 := hv1.cell; have hf1 := hv1.frozen)
    refine ⟨hk2.from _, hk2.walks, ⟨_, hv2, ?_, trivial⟩, hB.trans hb2⟩
    rw [accCells_append, List.length_append]
    exact hr2
  case done =>
    rintro D ys W hD hS ⟨⟨v, hv, hrow, _⟩, hB⟩ hK
    have hc := hv.cell
    gi_wp2
    refine ⟨by simp, .inl ⟨_, _, rfl, run_takeDeferred hK, ?_⟩⟩
    exact ⟨_, results_tmp rfl _ _ _, v, ys, rfl, hS, ownsRow_putObj hrow _ hK rfl, hB.trans (belowK_b (w := w) (Nat.le_refl _) W D _ _ (by omega) hK rfl rfl)⟩
  case stop =>
    rintro D c pre W _ _ h _
    exact h.elim

theorem collectAcc_in (F : Fence) (n : Nat) (h0f : F.fn 64) (hf : F.fn 77) (hro : F.round = none) (hn : 3 ≤ n) (g : Nat) (lb : Array Value) (hFg : F.fn g) (eg : ∀ args w, (callFunc g args).run Tryd.prog w = .ok (.enter g args) w)
    (S Sp : List Acc → Prop) (N : Nat) (hN : N ≤ 1000000) (w : World) (hseq : SeqStops F (n - 1 - 1) Tryd.prog g lb Acc.v S Sp N w) :
    CallsIn F n Tryd.prog 64 #[.func (.func g) #[] lb] w fun e w' => ∃ (v : Value) (ss : List Acc), e = .returned v ∧ S ss ∧ w'.ownsRow w.heap.size 75 2 v ss.length (accCells ss) ∧ Below w.heap.size w w' := by
  have h1 : 1 ≤ n := by omega
  refine callsIn_of_wp Tryd.func64 rfl h0f ?_ hro
  simp only [Tryd.ntmps64, List.size_toArray, List.length_cons, List.length_nil, Nat.reduceAdd, Nat.reduceSub, Array.replicate_succ, Array.replicate_zero, List.push_toArray, List.append_toArray, List.nil_append, List.cons_append]
  gi_wp2_with (gi_at_call 77; refine (appendAcc_in F (n - 1) hf hro (by omega) g lb hFg eg S Sp N hN _ hseq).mono ?_; rintro e w' ⟨v, ss, rfl, hS, hrow, hb⟩)
  go_ret
  exact ⟨v, ss, rfl, hS, hrow, hb⟩
end Go.Proofs.YtmmbhmlhenpgbaaDoor
