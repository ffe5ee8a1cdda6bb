/- Proved: causal.Check at one currency; opt's Do at it, without passes: it stays as it is. -/
import Derived.Test.YtiejoapnljkjdaaGreatDoorCauFields
import Derived.Test.YtiejoapnljkjdaaGreatDoorGenRd
import Derived.RangeFuncNested
import Derived.RangeFuncBound
import Derived.RangeFuncCalls
import Derived.RangeFuncLeaves
import Derived.Shelf.Abstract
import Derived.Shelf.RegionOpen
import Derived.WalkKit
import Derived.OwnWalkIn
import Derived.TacticsInMore
import Derived.LoopNIn
import Derived.LoopIn
namespace Go.Proofs.YtiejoapnljkjdaaGreatDoor
open Go.RowKit Go.Shelf
set_option linter.unusedVariables false
set_option linter.unusedSimpArgs false
set_option maxRecDepth 100000
attribute [local go_sem] Oper.semAt_some
def VarCore (s : ByteArray) (W : World) (Bx : Nat) : Prop := W.heap[Bx]? = some (.cells #[.int .i64 24, .int .i64 0, .string s, .slice none 0 0] 42 (0, 0))
theorem varCore_kept {s : ByteArray} {W W' : World} {Bx : Nat} {row : Option Nat} (h : VarCore s W Bx) (hg : W.grownBy W' row) (hr : ∀ r, row = some r → ∃ o : Obj, W.heap[r]? = some o ∧ o.isCells = false) : VarCore s W' Bx :=
  (hg.block Bx (lt_of_block h) (fun e => by obtain ⟨o, ho, hc⟩ := hr Bx e.symm; rw [show W.heap[Bx]? = _ from h] at ho; cases ho; cases hc)).trans h
set_option maxHeartbeats 2000000 in
theorem check_one (s : ByteArray) (w : World) (hc : Led.isCur s = true) (hs : s.size ≤ 9223372036854775807) :
    Calls Tryz.prog 35 #[core0 24 0 s] w (Gives (.int .i64 0) w) := by
  refine callsIn_wide.1 (show CallsIn Fence.wide 7 _ _ _ _ _ from ?_)
  have h1 : 1 ≤ 7 := by omega
  have HT := hid' (fun w => type_one s w hs)
  rw [hc, show tyOf true 4 = 4 from rfl] at HT
  refine callsIn_of_wp_marks Tryz.func35 rfl trivial ?_ rfl
  simp only [Tryz.ntmps35, List.size_toArray, List.length_cons, List.length_nil, Nat.reduceAdd, Nat.reduceSub, Array.replicate_succ, Array.replicate_zero, List.push_toArray, List.append_toArray, List.nil_append, List.cons_append, core0]
  have hnn : ∀ (p : Value) (w : World), (binOp BinOp.eql 117 (.func (.func 99) #[] #[p]) .nilFunc).run Tryz.prog w = .ok (.bool false) w := fun _ _ => by kernel_rfl
  have f64 : Fence.wide.fn 64 := trivial
  have f52 : Fence.wide.fn 52 := trivial
  have hb1 := ((Boxed.new (w.alloc (.cells #[.int .i64 24, .int .i64 0, .string s, .slice none 0 0] 42)) 29 (.int .i64 0)))
  have hb0 : VarCore s ((w.alloc (.cells #[.int .i64 24, .int .i64 0, .string s, .slice none 0 0] 42)).alloc (.cells #[.int .i64 0] 29)) w.heap.size := (Below.heap_alloc _ _ _ (by simp)).trans (heap_alloc_new w _)
  have hB0 : Below w.heap.size w ((w.alloc (.cells #[.int .i64 24, .int .i64 0, .string s, .slice none 0 0] 42)).alloc (.cells #[.int .i64 0] 29)) := ((Below.refl _ w).alloc (Nat.le_refl _) _).alloc (by simp) _
  simp only [World.size_alloc] at hb1
  have H0 := hid' (And.intro hb1 (And.intro hb0 hB0))
  clear hb1 hb0 hB0
  gi_wp2_with (first
    | (gi_at_call 52; refine (callsIn_wide.2 (HT.out _)).mono ?_; rintro e w2 ⟨rfl, b2⟩; have H2 := hid' (And.intro (box_below b2 H0.out.1) (And.intro (box_below b2 H0.out.2.1) (Below.more H0.out.2.2 b2))); obtain ⟨c0, c1, c2, c3⟩ := heap_cells4 H2.out.2.1)
    | (gi_at_call 64; refine (all_in Fence.wide 6 trivial rfl 24 0 s _).mono ?_; rintro e w' ⟨rfl, rfl⟩))
  have hBA := (Below.refl w2.heap.size w2).alloc (Nat.le_refl _) (.cells #[.int .i64 24, .int .i64 0, .string s, .slice none 0 0] 42)
  have bR : Boxed (w2.alloc (.cells #[.int .i64 24, .int .i64 0, .string s, .slice none 0 0] 42)) (w.heap.size + 1) 29 (.int .i64 0) := box_below hBA H2.out.1
  have bC := heap_alloc_new w2 (.cells #[.int .i64 24, .int .i64 0, .string s, .slice none 0 0] 42)
  have hB0 := Below.more H2.out.2.2 hBA
  have hsz : w.heap.size + 2 ≤ w2.heap.size := by have := lt_of_block H2.out.1; omega
  have hsz2 : (w2.alloc (.cells #[.int .i64 24, .int .i64 0, .string s, .slice none 0 0] 42)).heap.size = w2.heap.size + 1 := by simp
  obtain ⟨W0, hW0⟩ : ∃ W0, (w2.alloc (.cells #[.int .i64 24, .int .i64 0, .string s, .slice none 0 0] 42)) = W0 := ⟨_, rfl⟩
  rw [hW0] at bR bC hB0 hsz2 ⊢
  clear hW0 hBA c0 c1 c2 c3 H2 H0 HT
  refine wpIn_rangeFunc_ownH (F := Fence.wide) rfl h1 (gf := 99) (lb := #[.pointer (some ⟨w2.heap.size, 0, none⟩)]) rfl trivial (enters_of Tryz.func99 (by kernel_rfl) rfl)
    (all1_stops w2.heap.size w.heap.size 24 0 s W0 bC (by omega)) KpC.trans (kpC_b (by omega)) (Below.refl _ _) (fun _ => rfl)
    (fun (pre : List Unit) W => Boxed W (w.heap.size + 1) 29 (.int .i64 0) ∧ Below w.heap.size w W)
    (fun _ _ _ => False)
    (OwnFrom.and (Own.from (boxed_own _ _ (fun (_ : List Unit) => .int .i64 0)) _) (ownFrom_below (Nat.le_refl _) (by omega)))
    (fun _ _ _ _ _ hs _ _ => hs)
    ⟨bR, hB0⟩
    (fun x a' W => ∃ Bx, VarCore s W Bx ∧ a' = { tmps := #[.agg #[.int .i64 24, .int .i64 0, .string s, .slice none 0 0], .pointer (some ⟨w.heap.size, 0, none⟩), .pointer (some ⟨w.heap.size + 1, 0, none⟩), .int .i64 4, .bool true, undef, .pointer (some ⟨Bx, 0, none⟩), .tuple #[.int .i64 4, .bool true], .agg #[.int .i64 24, .int .i64 0, .string s, .slice none 0 0], .tuple #[.int .i64 4, .bool true], .int .i64 4, .bool true, .bool true, .bool false, .bool false, .int .i64 4, .bool false, .bool false, .agg #[.int .i64 24, .int .i64 0, .string s, .slice none 0 0], .func (.func 99) #[] #[.pointer (some ⟨w2.heap.size, 0, none⟩)], .int .i64 1, .agg #[.int .i64 24, .int .i64 0, .string s, .slice none 0 0], undef, undef, undef, undef, undef, undef, undef, undef, undef, undef, undef, undef, undef], defers := [] })
    (fun x a' s X Y row hs hg hr => by obtain ⟨Bx, h2, h3⟩ := hs; exact ⟨Bx, varCore_kept h2 hg (fun r e => (hr r e).2), h3⟩)
    ?assign ?body ?done ?stop
  case assign =>
    rintro l pre x W K ⟨hv, hB⟩ hK
    rw [show coreEnc 24 0 s x = #[.int .i64 1, .agg #[.int .i64 24, .int .i64 0, .string s, .slice none 0 0]] from rfl]
    gi_wp2
    refine hK _ _ ((KeepsOthers.alloc _ _).from _) ⟨(Below.refl _ W).alloc hB.size _, fun k cur t ht hk => Below.heap_alloc _ _ k (lt_of_block hk)⟩ ⟨hv.alloc _, hB.trans ((Below.refl _ W).alloc hB.size _)⟩ ⟨W.heap.size, heap_alloc_new _ _, ?_⟩
    rfl
  case body =>
    rintro l pre x a' W hl ⟨r, hr⟩ ⟨hv, hB⟩ ⟨Bx, bX, rfl⟩ hlt
    obtain ⟨x0, x1, x2, x3⟩ := heap_cells4 bX
    have HV := hid' (And.intro hv hB)
    clear hv hB bX hr
    gi_wp2
    exact ⟨KeepsFrom.refl _ _, ⟨Below.refl _ _, fun k cur t _ _ => rfl⟩, HV.out⟩
  case done =>
    rintro D ys W hD rfl ⟨hv, hB⟩ hK
    have hc := hv.cell
    have hf := hv.frozen
    gi_wp2
    have hd : (W.setCell ⟨w.heap.size + 1, 0, none⟩ (.int .i64 0)).heap[D]? = some (.deferred (some [])) := (Below.heap_setCell _ _ _ D (by show D ≠ w.heap.size + 1; omega)).trans hK
    refine ⟨by simp, .inl ⟨_, _, rfl, run_takeDeferred hd, ?_⟩⟩
    have hc2 : ((W.setCell ⟨w.heap.size + 1, 0, none⟩ (.int .i64 0)).putObj D (.deferred none)).cell? ⟨w.heap.size + 1, 0, none⟩ = some (.int .i64 0) := ((boxed_own (w.heap.size + 1) 29 (fun (_ : Unit) => .int .i64 0)).putObj (s := ()) _ (hv.set (.int .i64 0)) hd rfl).cell
    refine ⟨.int .i64 0, ?_, rfl, (hB.setCell (p := ⟨w.heap.size + 1, 0, none⟩) (by simp) _).trans (belowK_b (w := w) (Nat.le_refl _) _ D _ _ (by omega) hd rfl rfl)⟩
    simp [results, Tryz.results35, go_sem, hc2]
  case stop =>
    rintro D c pre W _ _ h _
    exact h.elim
/-- A core term is stored into a box of one. -/
theorem core_set {W : World} {x0 x1 x2 x3 : Value} (b : Nat) (op n : Int) (s : ByteArray) (h : W.heap[b]? = some (.cells #[x0, x1, x2, x3] 42 (0, 0))) :
    ((((W.setCell ⟨b, 0, none⟩ (.int .i64 op)).setCell ⟨b, 1, none⟩ (.int .i64 n)).setCell ⟨b, 2, none⟩ (.string s)).setCell ⟨b, 3, none⟩ (.slice none 0 0)).heap[b]? = some (.cells #[.int .i64 op, .int .i64 n, .string s, .slice none 0 0] 42 (0, 0)) ∧
    W.grownBy ((((W.setCell ⟨b, 0, none⟩ (.int .i64 op)).setCell ⟨b, 1, none⟩ (.int .i64 n)).setCell ⟨b, 2, none⟩ (.string s)).setCell ⟨b, 3, none⟩ (.slice none 0 0)) (some b) :=
  ⟨heap_setCell_same _ b 3 _ _ (.slice none 0 0) (heap_setCell_same _ b 2 _ _ (.string s) (heap_setCell_same _ b 1 _ _ (.int .i64 n) (heap_setCell_same W b 0 _ _ (.int .i64 op) h))), grown_trans (grown_trans (grown_trans (grown_set _ b 0 _) (grown_set _ b 1 _)) (grown_set _ b 2 _)) (grown_set _ b 3 _)⟩
theorem rules_any (w : World) : Calls Tryz.prog 63 #[] w (Gives (.slice (some ⟨w.heap.size, 0, none⟩) 7 7) w) := by
  go_enter Tryz.func63, Tryz.ntmps63
  go_wp2_with fail
  go_ret
  exact ⟨rfl, (Below.refl _ _).alloc (Nat.le_refl _) _⟩
theorem rewrite_one (s : ByteArray) (p : Option Addr) (n c : Nat) (w : World) : Calls Tryz.prog 62 #[core0 24 0 s, .int .i64 0, .slice p n c] w (Gives (core0 24 0 s) w) := by
  unfold core0
  go_enter Tryz.func62, Tryz.ntmps62
  go_wp2_with fail
  have hB : Below w.heap.size w ((((w.alloc (.cells #[.int .i64 24, .int .i64 0, .string s, .slice none 0 0] 42)).alloc (.cells #[.int .i64 0] 3)).alloc (.cells #[.int .i64 0, .int .i64 0, .string ⟨#[]⟩, .slice none 0 0] 42)).alloc (.cells #[.int .i64 24, .int .i64 0, .string s, .slice none 0 0] 42)) := ((((Below.refl _ w).alloc (Nat.le_refl _) _).alloc (by simp) _).alloc (by simp; omega) _).alloc (by simp; omega) _
  have h6 : ((((w.alloc (.cells #[.int .i64 24, .int .i64 0, .string s, .slice none 0 0] 42)).alloc (.cells #[.int .i64 0] 3)).alloc (.cells #[.int .i64 0, .int .i64 0, .string ⟨#[]⟩, .slice none 0 0] 42)).alloc (.cells #[.int .i64 24, .int .i64 0, .string s, .slice none 0 0] 42)).heap[w.heap.size + 1 + 1]? = some (.cells #[.int .i64 0, .int .i64 0, .string ⟨#[]⟩, .slice none 0 0] 42 (0, 0)) :=
    (Below.heap_alloc (((w.alloc (.cells #[.int .i64 24, .int .i64 0, .string s, .slice none 0 0] 42)).alloc (.cells #[.int .i64 0] 3)).alloc (.cells #[.int .i64 0, .int .i64 0, .string ⟨#[]⟩, .slice none 0 0] 42)) (.cells #[.int .i64 24, .int .i64 0, .string s, .slice none 0 0] 42) (w.heap.size + 1 + 1) (by simp)).trans (heap_new_at ((w.alloc (.cells #[.int .i64 24, .int .i64 0, .string s, .slice none 0 0] 42)).alloc (.cells #[.int .i64 0] 3)) (.cells #[.int .i64 0, .int .i64 0, .string ⟨#[]⟩, .slice none 0 0] 42) (by simp))
  have h7 : ((((w.alloc (.cells #[.int .i64 24, .int .i64 0, .string s, .slice none 0 0] 42)).alloc (.cells #[.int .i64 0] 3)).alloc (.cells #[.int .i64 0, .int .i64 0, .string ⟨#[]⟩, .slice none 0 0] 42)).alloc (.cells #[.int .i64 24, .int .i64 0, .string s, .slice none 0 0] 42)).heap[w.heap.size + 1 + 1 + 1]? = some (.cells #[.int .i64 24, .int .i64 0, .string s, .slice none 0 0] 42 (0, 0)) :=
    heap_new_at (((w.alloc (.cells #[.int .i64 24, .int .i64 0, .string s, .slice none 0 0] 42)).alloc (.cells #[.int .i64 0] 3)).alloc (.cells #[.int .i64 0, .int .i64 0, .string ⟨#[]⟩, .slice none 0 0] 42)) (.cells #[.int .i64 24, .int .i64 0, .string s, .slice none 0 0] 42) (by simp)
  have h3 : ((((w.alloc (.cells #[.int .i64 24, .int .i64 0, .string s, .slice none 0 0] 42)).alloc (.cells #[.int .i64 0] 3)).alloc (.cells #[.int .i64 0, .int .i64 0, .string ⟨#[]⟩, .slice none 0 0] 42)).alloc (.cells #[.int .i64 24, .int .i64 0, .string s, .slice none 0 0] 42)).heap[w.heap.size]? = some (.cells #[.int .i64 24, .int .i64 0, .string s, .slice none 0 0] 42 (0, 0)) := by
    rw [Below.heap_alloc _ _ _ (by simp; omega), Below.heap_alloc _ _ _ (by simp; omega), Below.heap_alloc _ _ _ (by simp)]
    exact heap_alloc_new w _
  generalize ((((w.alloc (.cells #[.int .i64 24, .int .i64 0, .string s, .slice none 0 0] 42)).alloc (.cells #[.int .i64 0] 3)).alloc (.cells #[.int .i64 0, .int .i64 0, .string ⟨#[]⟩, .slice none 0 0] 42)).alloc (.cells #[.int .i64 24, .int .i64 0, .string s, .slice none 0 0] 42)) = W5 at *
  obtain ⟨x0, x1, x2, x3⟩ := heap_cells4 h7
  obtain ⟨y0, y1, y2, y3⟩ := heap_cells4 h6
  have fr := frozen_of (o := 0) h6
  have fr1 := frozen_of (o := 1) h6
  have fr2 := frozen_of (o := 2) h6
  have fr3 := frozen_of (o := 3) h6
  have H := hid' (And.intro hB (And.intro h6 h7))
  clear hB h6 h7 h3
  go_loopw [17] (fun iv wr => iv = .int .i64 0 ∧ wr = W5) (fun _ _ => 0)
  case atStart => exact ⟨rfl, rfl⟩
  case round =>
    obtain ⟨rfl, rfl⟩ := hrel
    go_wp2_with fail
    generalize wr = W6 at *
    go_loopw [34] (fun _ wr => wr = W6) (fun _ _ => 0)
    case atStart => rfl
    case round =>
      obtain rfl := hrel
      go_wp2_with fail
      have hs := core_set (w.heap.size + 1 + 1) 24 0 s H.out.2.1
      obtain ⟨z0, z1, z2, z3⟩ := heap_cells4 hs.1
      refine bodyPost_ret (v := .agg #[.int .i64 24, .int .i64 0, .string s, .slice none 0 0]) ?_ rfl ?_
      · simp [results, Tryz.results62, go_sem, z0, z1, z2, z3]
      · exact ⟨rfl, below_grown H.out.1 hs.2 (by omega) H.out.1.size⟩
set_option maxHeartbeats 4000000 in
theorem do_one (s : ByteArray) (w : World) (hc : Led.isCur s = true) (hs : s.size ≤ 9223372036854775807) :
    Calls Tryz.prog 34 #[core0 24 0 s, .int .i64 0] w (Gives (.tuple #[core0 24 0 s, .int .i64 0]) w) := by
  have HC := hid' (fun w => check_one s w hc hs)
  have HRW := hid' (fun p n c w => rewrite_one s p n c w)
  unfold core0 at HRW
  have hb2 : ((w.alloc (.cells #[.int .i64 24, .int .i64 0, .string s, .slice none 0 0] 42)).alloc (.cells #[.int .i64 0, .int .i64 0, .string ⟨#[]⟩, .slice none 0 0] 42)).heap[w.heap.size + 1]? = some (.cells #[.int .i64 0, .int .i64 0, .string ⟨#[]⟩, .slice none 0 0] 42 (0, 0)) := heap_new_at _ _ (by simp)
  have hb1 : ((w.alloc (.cells #[.int .i64 24, .int .i64 0, .string s, .slice none 0 0] 42)).alloc (.cells #[.int .i64 0, .int .i64 0, .string ⟨#[]⟩, .slice none 0 0] 42)).heap[w.heap.size]? = some (.cells #[.int .i64 24, .int .i64 0, .string s, .slice none 0 0] 42 (0, 0)) := (Below.heap_alloc _ _ _ (by simp)).trans (heap_alloc_new w _)
  have hB0 : Below w.heap.size w ((w.alloc (.cells #[.int .i64 24, .int .i64 0, .string s, .slice none 0 0] 42)).alloc (.cells #[.int .i64 0, .int .i64 0, .string ⟨#[]⟩, .slice none 0 0] 42)) := ((Below.refl _ w).alloc (Nat.le_refl _) _).alloc (by simp) _
  have H0 := hid' (And.intro hb1 (And.intro hb2 hB0))
  clear hb1 hb2 hB0
  unfold core0
  go_enter Tryz.func34, Tryz.ntmps34
  go_wp2_with fail
  refine (HC.out _).mono ?_
  rintro e w2 ⟨rfl, b2⟩
  have H2 := hid' (And.intro (box_below b2 H0.out.1) (And.intro (box_below b2 H0.out.2.1) (Below.more H0.out.2.2 b2)))
  clear b2 H0
  go_upto_region 3 with (fail)
  obtain ⟨x0, x1, x2, x3⟩ := heap_cells4 H2.out.1
  go_region_with (first
    | (go_at_call 63; refine (rules_any _).mono ?_; rintro e wq ⟨rfl, br⟩; have br2 : Below w.heap.size w wq := (by first | exact Below.more H2.out.2.2 br | exact Below.more (Below.drew H2.out.2.2) br); have hk1 := box_below br H2.out.1; have hk2 := box_below br H2.out.2.1; obtain ⟨p0, p1, p2, p3⟩ := heap_cells4 hk1)
    | (go_at_call 62; refine (HRW.out _ _ _ _).mono ?_; rintro e wv ⟨rfl, bv⟩; have hk3 := box_below bv hk2; obtain ⟨y0, y1, y2, y3⟩ := heap_cells4 hk3; have fr0 := frozen_of (o := 0) hk3; have fr1 := frozen_of (o := 1) hk3; have fr2 := frozen_of (o := 2) hk3; have fr3 := frozen_of (o := 3) hk3; have hs3 := core_set (w.heap.size + 1) 24 0 s hk3; obtain ⟨z0, z1, z2, z3⟩ := heap_cells4 hs3.1; have HBV := hid' (below_grown (Below.more br2 bv) hs3.2 (by omega) (Below.more br2 bv).size)))
  all_goals clear hk1 hk2 hk3 hs3 br bv br2
  all_goals go_wp2_with fail
  all_goals refine bodyPost_ret (v := .tuple #[.agg #[.int .i64 24, .int .i64 0, .string s, .slice none 0 0], .int .i64 0]) ?_ rfl ?_
  all_goals first
    | (simp [results, Tryz.results34, go_sem, z0, z1, z2, z3]; done)
    | (exact ⟨rfl, HBV.out⟩)
end Go.Proofs.YtiejoapnljkjdaaGreatDoor
