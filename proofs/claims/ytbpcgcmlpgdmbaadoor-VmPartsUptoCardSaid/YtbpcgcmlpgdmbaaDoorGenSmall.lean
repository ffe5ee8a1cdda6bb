/- Proved: causal's all and small at a term without kids, as contracts. -/
import Derived.Test.YtbpcgcmlpgdmbaaDoorGenFields
import Derived.Test.YtbpcgcmlpgdmbaaDoorAnyHead
import Derived.RangeFuncNested
import Derived.RangeFuncBound
import Derived.RangeFuncCalls
import Derived.RangeFuncLeaves
import Derived.Shelf.Abstract
import Derived.Shelf.RegionOpen
import Derived.WalkKit
import Derived.OwnWalkIn
import Derived.TacticsInMore
import Derived.LoopNIn
import Derived.LoopIn
namespace Go.Proofs.YtbpcgcmlpgdmbaaDoor
open Go.RowKit Go.Shelf
set_option linter.unusedVariables false
set_option linter.unusedSimpArgs false
set_option maxRecDepth 100000
attribute [local go_sem] Oper.semAt_some
/-- A function value fits one cell. -/
theorem run_store_func (P : Program) (w : World) (a : Addr) (m : Mode) (f : Fn) (ts cs : Array Value) : (store a (.func f ts cs) m).run P w = stored P w a (.func f ts cs) m := run_store P w a _ m rfl
attribute [local go_sem] run_store_func
/-- A core term without kids, by value. -/
def core0 (op n : Int) (s : ByteArray) : Value := .agg #[.int .i64 op, .int .i64 n, .string s, .slice none 0 0]
theorem room_of_none {F : Fence} (hd : F.depth = none) (k : Nat) : F.room k := fun d h => by rw [hd] at h; cases h
theorem RoundIn.anyDepth {F : Fence} (hd : F.depth = none) {m m' : Nat} {P : Program} {l : Nat} {f : FuncId} {tmps : Array Value} {assign body : Code} {w : World} {R : Ending → World → Prop}
    (h : RoundIn F m P l f tmps assign body w R) : RoundIn F m' P l f tmps assign body w R := ⟨h.1, fun c cs _ => h.2 c cs (room_of_none hd _)⟩
theorem YieldAt.anyDepth {F : Fence} (hd : F.depth = none) {m : Nat} (m' : Nat) {P : Program} {l : Nat} {args : Array Value} {W : World} {R : Ending → World → Prop} (h : YieldAt F m P l args W R) : YieldAt F m' P l args W R := by
  obtain ⟨fn, tmps, assign, body, hy, hR⟩ := h
  exact ⟨fn, tmps, assign, body, hy, RoundIn.anyDepth hd hR⟩
theorem abides_below {β : Type} {B : Nat} {J : β → World → Prop} (hJ : AbidesFrom B J) {s : β} {W W' : World} (h : J s W) (hb : Below W.heap.size W W') : J s W' :=
  hJ s W W' none h ⟨hb.os, hb.tape, hb.output, hb.size, fun k hk _ => hb.block k hk⟩ (fun r e => by cases e)
/-- What a round of a range over all keeps. -/
def KpC (n₀ : Nat) (W W' : World) : Prop := Below n₀ W W' ∧ ∀ (k : Nat) (cur : Array Value) (t : TypeId), (t = 64 ∨ t = 113 ∨ t = 114) → W.heap[k]? = some (.cells cur t (0, 0)) → W'.heap[k]? = W.heap[k]?
theorem KpC.trans {n₀ : Nat} {A B C : World} (h : KpC n₀ A B) (k : KpC n₀ B C) : KpC n₀ A C :=
  ⟨h.1.trans k.1, fun j cur t ht hj => (k.2 j cur t ht ((h.2 j cur t ht hj).trans hj)).trans (h.2 j cur t ht hj)⟩
theorem kpC_b {n₀ : Nat} {w : World} (hn : n₀ ≤ w.heap.size) (W : World) (l : Nat) (o o' : Obj) (hl : w.heap.size ≤ l) (h : W.heap[l]? = some o) (ho : o.isCells = false) (hw : o.isWalk = false) : KpC n₀ W (W.putObj l o') :=
  ⟨belowK_b hn W l o o' hl h ho hw, fun k cur t _ hk => World.putObj_heap_other (by rintro rfl; rw [hk] at h; cases h; cases ho)⟩
theorem heap_cells4 {W : World} {b : Nat} {x y z u : Value} {t : TypeId} (h : W.heap[b]? = some (.cells #[x, y, z, u] t (0, 0))) :
    W.cell? ⟨b, 0, none⟩ = some x ∧ W.cell? ⟨b, 1, none⟩ = some y ∧ W.cell? ⟨b, 2, none⟩ = some z ∧ W.cell? ⟨b, 3, none⟩ = some u :=
  ⟨by simp [World.cell?, h], by simp [World.cell?, h], by simp [World.cell?, h], by simp [World.cell?, h]⟩
set_option maxHeartbeats 2000000 in
/-- The walk's closure at a term without kids: one round. -/
theorem walk_one (l B n₀ By Bs : Nat) (op n : Int) (s : ByteArray) (J Jx : List Unit → World → Prop) (W : World) (hJ : AbidesFrom B J) (hByl : By < W.heap.size) (hBy : W.cell? ⟨By, 0, none⟩ = some (.func (.yield l) #[] #[]))
    (hY : ∀ pre x W1, J pre W1 → pre.length < 1 → YieldAt Fence.wide 5 Tryd.prog l #[.int .i64 1, core0 op n s] W1 fun e W' => (e = .returned (.bool true) ∧ J (pre ++ [x]) W' ∧ KpC n₀ W1 W') ∨ (e = .returned (.bool false) ∧ Jx (pre ++ [x]) W'))
    (h0 : J [] W) (hn : n₀ ≤ W.heap.size) :
    CallsIn Fence.wide 5 Tryd.prog 64 #[core0 op n s, .int .i64 1, .pointer (some ⟨By, 0, none⟩), .pointer (some ⟨Bs, 0, none⟩)] W fun e W' =>
      (e = .returned (.bool true) ∧ J [()] W' ∧ KpC n₀ W W') ∨ (e = .returned (.bool false) ∧ Jx [()] W') := by
  have HY := hid' hY
  have HJ := hid' hJ
  have H0 := hid' h0
  clear hY hJ h0
  refine callsIn_of_wp Tryd.func64 rfl trivial ?_ rfl
  simp only [Tryd.ntmps64, List.size_toArray, List.length_cons, List.length_nil, Nat.reduceAdd, Nat.reduceSub, Array.replicate_succ, Array.replicate_zero, List.push_toArray, List.append_toArray, List.nil_append, List.cons_append, core0]
  have hB1 : Below W.heap.size W (W.alloc (.cells #[.int .i64 op, .int .i64 n, .string s, .slice none 0 0] 64)) := (Below.refl _ _).alloc (Nat.le_refl _) _
  have hBy1 := (hB1.cell (p := ⟨By, 0, none⟩) hByl).trans hBy
  have hb := heap_alloc_new W (.cells #[.int .i64 op, .int .i64 n, .string s, .slice none 0 0] 64)
  obtain ⟨x0, x1, x2, x3⟩ := heap_cells4 hb
  have hJ1 := abides_below HJ.out H0.out hB1
  obtain ⟨fn, tmps, assign, body, hy, hR⟩ := HY.out [] () _ hJ1 (by simp)
  rw [core0] at hy
  have HB1 := hid' hB1
  have HB := hid' hb
  have HR := hid' hR
  clear hJ1 hB1 hb hR
  gi_wp2
  refine (RoundIn.anyDepth rfl HR.out).mono ?_
  rintro e W3 (⟨rfl, hJ3, hk3⟩ | ⟨rfl, hJx3⟩)
  · obtain ⟨y0, y1, y2, y3⟩ := heap_cells4 ((hk3.2 _ _ _ (.inl rfl) HB.out).trans HB.out)
    have HK := hid' hk3
    have HJ3 := hid' hJ3
    clear hk3 hJ3 x0 x1 x2 x3
    gi_wp2
    gi_loopw [17] (fun iv wr => iv = .int .i64 0 ∧ wr = W3) (fun _ _ => 0)
    case atStart => exact ⟨rfl, rfl⟩
    case round =>
      obtain ⟨rfl, rfl⟩ := hrel
      gi_wp2
      go_ret
      exact .inl ⟨rfl, HJ3.out, KpC.trans ⟨HB1.out.mono hn, fun k cur t _ hk => HB1.out.block k (lt_of_block hk)⟩ HK.out⟩
  · gi_wp2
    go_ret
    exact .inr ⟨rfl, hJx3⟩
def coreEnc (op n : Int) (s : ByteArray) : Unit → Array Value := fun _ => #[.int .i64 1, core0 op n s]
theorem all_in (F : Fence) (n : Nat) (h5 : F.fn 51) (hro : F.round = none) (op k : Int) (s : ByteArray) (w : World) :
    CallsIn F n Tryd.prog 51 #[core0 op k s] w fun e w' => e = .returned (.func (.func 63) #[] #[.pointer (some ⟨w.heap.size, 0, none⟩)]) ∧ w' = w.alloc (.cells #[.int .i64 op, .int .i64 k, .string s, .slice none 0 0] 64) := by
  refine callsIn_of_wp Tryd.func51 rfl h5 ?_ hro
  simp only [Tryd.ntmps51, List.size_toArray, List.length_cons, List.length_nil, Nat.reduceAdd, Nat.reduceSub, Array.replicate_succ, Array.replicate_zero, List.push_toArray, List.append_toArray, List.nil_append, List.cons_append, core0]
  gi_wp2
  go_ret
  exact ⟨rfl, rfl⟩
set_option maxHeartbeats 2000000 in
theorem all1_stops (Bc n₀ : Nat) (op n : Int) (s : ByteArray) (w : World) (hBc : w.heap[Bc]? = some (.cells #[.int .i64 op, .int .i64 n, .string s, .slice none 0 0] 64 (0, 0))) (hn : n₀ ≤ w.heap.size) :
    SeqStopsK Fence.wide 6 Tryd.prog 63 #[.pointer (some ⟨Bc, 0, none⟩)] (coreEnc op n s) (KpC n₀) (fun xs => xs = [()]) (fun _ => True) 1 w := by
  intro l J Jx W hW hJ hJx hY h0
  have HC := hid' ((hW.block Bc (lt_of_block hBc)).trans hBc)
  have HY := hid' hY
  have HJ := hid' hJ
  have H0 := hid' h0
  have HW := hid' hW
  clear hY hJ h0 hW hJx
  refine callsIn_of_wp Tryd.func63 rfl trivial ?_ rfl
  simp only [Tryd.ntmps63, List.size_toArray, List.length_cons, List.length_nil, Nat.reduceAdd, Nat.reduceSub, Array.replicate_succ, Array.replicate_zero, List.push_toArray, List.append_toArray, List.nil_append, List.cons_append]
  have bW := Boxed.new (W.alloc (.cells #[.func (.yield l) #[] #[]] 113)) 114 .nilFunc
  simp only [World.size_alloc] at bW
  have z0 := bW.cell
  have z1 := bW.frozen
  have hB2 : Below W.heap.size W ((W.alloc (.cells #[.func (.yield l) #[] #[]] 113)).alloc (.cells #[.func (.func 64) #[] #[.pointer (some ⟨W.heap.size, 0, none⟩), .pointer (some ⟨W.heap.size + 1, 0, none⟩)]] 114)) := ((Below.refl _ _).alloc (Nat.le_refl _) _).alloc (by simp) _
  have hB0 := (hB2.block Bc (lt_of_block HC.out)).trans HC.out
  obtain ⟨x0, x1, x2, x3⟩ := heap_cells4 hB0
  have hby : ((W.alloc (.cells #[.func (.yield l) #[] #[]] 113)).alloc (.cells #[.func (.func 64) #[] #[.pointer (some ⟨W.heap.size, 0, none⟩), .pointer (some ⟨W.heap.size + 1, 0, none⟩)]] 114)).cell? ⟨W.heap.size, 0, none⟩ = some (.func (.yield l) #[] #[]) := ((Boxed.new W 113 (.func (.yield l) #[] #[])).alloc _).cell
  have hsz : W.heap.size < ((W.alloc (.cells #[.func (.yield l) #[] #[]] 113)).alloc (.cells #[.func (.func 64) #[] #[.pointer (some ⟨W.heap.size, 0, none⟩), .pointer (some ⟨W.heap.size + 1, 0, none⟩)]] 114)).heap.size := by simp; omega
  have HONE := hid' (walk_one l W.heap.size n₀ W.heap.size (W.heap.size + 1) op n s J Jx _ HJ.out hsz hby (fun pre x W1 => HY.out pre x W1) (abides_below HJ.out H0.out hB2) (by have := HW.out.size; simp; omega))
  clear hB2 hB0 hby hsz
  gi_wp2
  refine ⟨trivial, HONE.out.mono ?_⟩
  rintro e W3 (⟨rfl, h1, h2⟩ | ⟨rfl, h1⟩)
  · gi_wp2
    refine bodyPost_end (results_none rfl _ _ _) rfl ?_
    exact ⟨⟨_, rfl⟩, .inl ⟨[()], rfl, h1⟩⟩
  · gi_wp2
    refine bodyPost_end (results_none rfl _ _ _) rfl ?_
    exact ⟨⟨_, rfl⟩, .inr ⟨[()], trivial, h1⟩⟩
set_option maxHeartbeats 2000000 in
theorem causSmall_any (op n : Int) (s : ByteArray) (w : World) :
    Calls Tryd.prog 30 #[core0 op n s] w (Gives (.bool true) w) := by
  refine callsIn_wide.1 (show CallsIn Fence.wide 7 _ _ _ _ _ from ?_)
  have h1 : 1 ≤ 7 := by omega
  refine callsIn_of_wp_marks Tryd.func30 rfl trivial ?_ rfl
  simp only [Tryd.ntmps30, List.size_toArray, List.length_cons, List.length_nil, Nat.reduceAdd, Nat.reduceSub, Array.replicate_succ, Array.replicate_zero, List.push_toArray, List.append_toArray, List.nil_append, List.cons_append, core0]
  have hnn : ∀ (p : Value) (w : World), (binOp BinOp.eql 95 (.func (.func 63) #[] #[p]) .nilFunc).run Tryd.prog w = .ok (.bool false) w := fun _ _ => by kernel_rfl
  have f64 : Fence.wide.fn 51 := trivial
  gi_wp2_with (gi_at_call 51; refine (all_in Fence.wide 6 trivial rfl op n s _).mono ?_; rintro e w' ⟨rfl, rfl⟩)
  have bR := ((Boxed.new (w.alloc (.cells #[.int .i64 op, .int .i64 n, .string s, .slice none 0 0] 64)) 4 (.bool false)).alloc (.cells #[.int .i64 0] 3)).alloc (.cells #[.int .i64 op, .int .i64 n, .string s, .slice none 0 0] 64)
  have bN := (Boxed.new ((w.alloc (.cells #[.int .i64 op, .int .i64 n, .string s, .slice none 0 0] 64)).alloc (.cells #[.bool false] 4)) 3 (.int .i64 0)).alloc (.cells #[.int .i64 op, .int .i64 n, .string s, .slice none 0 0] 64)
  have bC := heap_alloc_new (((w.alloc (.cells #[.int .i64 op, .int .i64 n, .string s, .slice none 0 0] 64)).alloc (.cells #[.bool false] 4)).alloc (.cells #[.int .i64 0] 3)) (.cells #[.int .i64 op, .int .i64 n, .string s, .slice none 0 0] 64)
  simp only [World.size_alloc] at bR bN bC
  have hB0 : Below w.heap.size w ((((w.alloc (.cells #[.int .i64 op, .int .i64 n, .string s, .slice none 0 0] 64)).alloc (.cells #[.bool false] 4)).alloc (.cells #[.int .i64 0] 3)).alloc (.cells #[.int .i64 op, .int .i64 n, .string s, .slice none 0 0] 64)) := ((((Below.refl _ w).alloc (Nat.le_refl _) _).alloc (by simp) _).alloc (by simp; omega) _).alloc (by simp; omega) _
  have hsz2 : ((((w.alloc (.cells #[.int .i64 op, .int .i64 n, .string s, .slice none 0 0] 64)).alloc (.cells #[.bool false] 4)).alloc (.cells #[.int .i64 0] 3)).alloc (.cells #[.int .i64 op, .int .i64 n, .string s, .slice none 0 0] 64)).heap.size = w.heap.size + 4 := by simp
  obtain ⟨W0, hW0⟩ : ∃ W0, ((((w.alloc (.cells #[.int .i64 op, .int .i64 n, .string s, .slice none 0 0] 64)).alloc (.cells #[.bool false] 4)).alloc (.cells #[.int .i64 0] 3)).alloc (.cells #[.int .i64 op, .int .i64 n, .string s, .slice none 0 0] 64)) = W0 := ⟨_, rfl⟩
  rw [hW0] at bR bN bC hB0 hsz2 ⊢
  clear hW0
  refine wpIn_rangeFunc_ownH (F := Fence.wide) rfl h1 (gf := 63) (lb := #[.pointer (some ⟨w.heap.size + 1 + 1 + 1, 0, none⟩)]) rfl trivial (enters_of Tryd.func63 (by kernel_rfl) rfl)
    (all1_stops (w.heap.size + 1 + 1 + 1) w.heap.size op n s W0 bC (by omega)) KpC.trans (kpC_b (by omega)) (Below.refl _ _) (fun _ => rfl)
    (fun (pre : List Unit) W => (Boxed W (w.heap.size + 1 + 1) 3 (.int .i64 (pre.length : Int)) ∧ Boxed W (w.heap.size + 1) 4 (.bool false)) ∧ Below w.heap.size w W)
    (fun _ _ _ => False)
    (OwnFrom.and (OwnFrom.and (Own.from (boxed_own _ _ (fun (pre : List Unit) => .int .i64 (pre.length : Int))) _) (Own.from (boxed_own _ _ (fun (_ : List Unit) => .bool false)) _)) (ownFrom_below (Nat.le_refl _) (by omega)))
    (fun _ _ _ _ _ hs _ _ => hs)
    ⟨⟨bN, bR⟩, hB0⟩
    (fun x a' W => a' = { tmps := #[.agg #[.int .i64 op, .int .i64 n, .string s, .slice none 0 0], .pointer (some ⟨w.heap.size, 0, none⟩), .pointer (some ⟨w.heap.size + 1, 0, none⟩), .pointer (some ⟨w.heap.size + 1 + 1, 0, none⟩), .int .i64 1, .agg #[.int .i64 op, .int .i64 n, .string s, .slice none 0 0], .func (.func 63) #[] #[.pointer (some ⟨w.heap.size + 1 + 1 + 1, 0, none⟩)], .int .i64 1, .agg #[.int .i64 op, .int .i64 n, .string s, .slice none 0 0], undef, undef, undef, undef, undef, undef, undef, undef], defers := [] })
    (fun x a' s X Y row hs hg hr => hs)
    ?assign ?body ?done ?stop
  case assign =>
    rintro l pre x W K ⟨⟨hv, hc⟩, hB⟩ hK
    rw [show coreEnc op n s x = #[.int .i64 1, .agg #[.int .i64 op, .int .i64 n, .string s, .slice none 0 0]] from rfl]
    gi_wp2
    exact hK _ _ (KeepsFrom.refl _ _) ⟨Below.refl _ _, fun k cur t ht hk => rfl⟩ ⟨⟨hv, hc⟩, hB⟩ rfl
  case body =>
    rintro l pre x a' W hl ⟨r, hr⟩ ⟨⟨hv, hcb⟩, hB⟩ rfl hlt
    have hp : pre.length = 0 := by omega
    rw [hp] at hv
    have hc := hv.cell
    have hf := hv.frozen
    have HBW := hid' hB
    have HV := hid' hv
    have HC := hid' hcb
    have hbx : ∀ v' : Value, ∀ (k : Nat) (cur : Array Value) (t : TypeId), (t = 64 ∨ t = 113 ∨ t = 114) → W.heap[k]? = some (.cells cur t (0, 0)) → (W.setCell ⟨w.heap.size + 1 + 1, 0, none⟩ v').heap[k]? = W.heap[k]? := by
      intro v' k cur t ht hk
      refine Below.heap_setCell _ _ _ k ?_
      rintro rfl
      have e := hk.symm.trans (show W.heap[w.heap.size + 1 + 1]? = _ from hv)
      simp at e
      rcases ht with h | h | h <;> exact absurd (h.symm.trans e.2) (by decide)
    have HBX := hid' hbx
    clear hbx hB hv hcb hr
    gi_wp2
    refine ⟨(KeepsOthers.setCell _ _ _).from _, ⟨(Below.refl _ W).setCell (p := ⟨w.heap.size + 1 + 1, 0, none⟩) (by simp; omega) _, HBX.out _⟩, ⟨?_, HC.out.other (by omega) _⟩, HBW.out.setCell (p := ⟨w.heap.size + 1 + 1, 0, none⟩) (by simp; omega) _⟩
    rw [List.length_append, hp]
    exact HV.out.set _
  case done =>
    rintro D ys W hD rfl ⟨⟨hv, hcb⟩, hB⟩ hK
    have hc := hcb.cell
    have hf := hcb.frozen
    gi_wp2
    have hd : (W.setCell ⟨w.heap.size + 1, 0, none⟩ (.bool true)).heap[D]? = some (.deferred (some [])) := (Below.heap_setCell _ _ _ D (by show D ≠ w.heap.size + 1; omega)).trans hK
    refine ⟨by simp, .inl ⟨_, _, rfl, run_takeDeferred hd, ?_⟩⟩
    have hc2 : ((W.setCell ⟨w.heap.size + 1, 0, none⟩ (.bool true)).putObj D (.deferred none)).cell? ⟨w.heap.size + 1, 0, none⟩ = some (.bool true) := ((boxed_own (w.heap.size + 1) 4 (fun (_ : Unit) => .bool true)).putObj (s := ()) _ (hcb.set (.bool true)) hd rfl).cell
    refine ⟨.bool true, ?_, rfl, (hB.setCell (p := ⟨w.heap.size + 1, 0, none⟩) (by simp) _).trans (belowK_b (w := w) (Nat.le_refl _) _ D _ _ (by omega) hd rfl rfl)⟩
    simp [results, Tryd.results30, go_sem, hc2]
  case stop =>
    rintro D c pre W _ _ h _
    exact h.elim
end Go.Proofs.YtbpcgcmlpgdmbaaDoor
