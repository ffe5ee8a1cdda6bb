/- Proved: of a nil ledger: Posts, Held, Total, posts, held give nothing. -/
import Derived.Test.YtmmbhmlhenpgbaaDoorLedShown
import Derived.RangeFuncNested
import Derived.RangeFuncBound
import Derived.RangeFuncCalls
import Derived.RangeFuncLeaves
import Derived.Shelf.Abstract
import Derived.Shelf.RegionOpen
import Derived.WalkKit
import Derived.OwnWalkIn
import Derived.TacticsInMore
import Derived.LoopNIn
import Derived.LoopIn
namespace Go.Proofs.YtmmbhmlhenpgbaaDoor
open Go.RowKit Go.Shelf
open Led
set_option linter.unusedVariables false
set_option linter.unusedSimpArgs false
set_option maxRecDepth 100000
attribute [local go_sem] Oper.semAt_some

def noEnc : Empty → Array Value := fun x => x.elim
/-- **(l *Ledger) Posts()**: the receiver is boxed; the function value captures the box. -/
theorem postsIt_in (F : Fence) (n : Nat) (h5 : F.fn 44) (hro : F.round = none) (p0 : Option Addr) (w : World) :
    CallsIn F n Tryd.prog 44 #[.pointer p0] w fun e w' => e = .returned (.func (.func 59) #[] #[.pointer (some ⟨w.heap.size, 0, none⟩)]) ∧ w' = w.alloc (.cells #[.pointer p0] 36) := by
  refine callsIn_of_wp Tryd.func44 rfl h5 ?_ hro
  simp only [Tryd.ntmps44, List.size_toArray, List.length_cons, List.length_nil, Nat.reduceAdd, Nat.reduceSub, Array.replicate_succ, Array.replicate_zero, List.push_toArray, List.append_toArray, List.nil_append, List.cons_append]
  gi_wp2
  go_ret
  exact ⟨rfl, rfl⟩
theorem heldIt_in (F : Fence) (n : Nat) (h5 : F.fn 43) (hro : F.round = none) (p0 : Option Addr) (w : World) :
    CallsIn F n Tryd.prog 43 #[.pointer p0] w fun e w' => e = .returned (.func (.func 56) #[] #[.pointer (some ⟨w.heap.size, 0, none⟩)]) ∧ w' = w.alloc (.cells #[.pointer p0] 36) := by
  refine callsIn_of_wp Tryd.func43 rfl h5 ?_ hro
  simp only [Tryd.ntmps43, List.size_toArray, List.length_cons, List.length_nil, Nat.reduceAdd, Nat.reduceSub, Array.replicate_succ, Array.replicate_zero, List.push_toArray, List.append_toArray, List.nil_append, List.cons_append]
  gi_wp2
  go_ret
  exact ⟨rfl, rfl⟩
theorem posts1_nil (F : Fence) (n : Nat) (h : F.fn 59) (hro : F.round = none) (n0 Bm : Nat) (w : World) (hBm : Bm < w.heap.size) (hm : w.cell? ⟨Bm, 0, none⟩ = some (.pointer none)) :
    SeqStopsK F n Tryd.prog 59 #[.pointer (some ⟨Bm, 0, none⟩)] noEnc (Below n0) (fun xs => xs = []) (fun _ => False) 0 w := by
  intro l J Jx W hW hJ hJx hY h0
  have hm' := (hW.cell (p := ⟨Bm, 0, none⟩) hBm).trans hm
  refine callsIn_of_wp Tryd.func59 rfl h ?_ hro
  simp only [Tryd.ntmps59, List.size_toArray, List.length_cons, List.length_nil, Nat.reduceAdd, Nat.reduceSub, Array.replicate_succ, Array.replicate_zero, List.push_toArray, List.append_toArray, List.nil_append, List.cons_append]
  gi_wp2
  refine bodyPost_ret (results_none rfl _ _ _) rfl ?_
  exact ⟨⟨_, rfl⟩, .inl ⟨[], rfl, h0⟩⟩
theorem held1_nil (F : Fence) (n : Nat) (h : F.fn 56) (hro : F.round = none) (n0 Bm : Nat) (w : World) (hBm : Bm < w.heap.size) (hm : w.cell? ⟨Bm, 0, none⟩ = some (.pointer none)) :
    SeqStopsK F n Tryd.prog 56 #[.pointer (some ⟨Bm, 0, none⟩)] noEnc (Below n0) (fun xs => xs = []) (fun _ => False) 0 w := by
  intro l J Jx W hW hJ hJx hY h0
  have hm' := (hW.cell (p := ⟨Bm, 0, none⟩) hBm).trans hm
  refine callsIn_of_wp Tryd.func56 rfl h ?_ hro
  simp only [Tryd.ntmps56, List.size_toArray, List.length_cons, List.length_nil, Nat.reduceAdd, Nat.reduceSub, Array.replicate_succ, Array.replicate_zero, List.push_toArray, List.append_toArray, List.nil_append, List.cons_append]
  gi_wp2
  refine bodyPost_ret (results_none rfl _ _ _) rfl ?_
  exact ⟨⟨_, rfl⟩, .inl ⟨[], rfl, h0⟩⟩

theorem held_nil_in (F : Fence) (n : Nat) (h1f : F.fn 18) (h2f : F.fn 43) (h3f : F.fn 56) (hro : F.round = none) (hn : 3 ≤ n) (w : World) :
    CallsIn F n Tryd.prog 18 #[.pointer none] w fun e w' => e = .returned (.slice none 0 0) ∧ Below w.heap.size w w' := by
  have h1 : 1 ≤ n := by omega
  refine callsIn_of_wp_marks Tryd.func18 rfl h1f ?_ hro
  simp only [Tryd.ntmps18, List.size_toArray, List.length_cons, List.length_nil, Nat.reduceAdd, Nat.reduceSub, Array.replicate_succ, Array.replicate_zero, List.push_toArray, List.append_toArray, List.nil_append, List.cons_append]
  have hnn : ∀ (p : Value) (w : World), (binOp BinOp.eql 79 (.func (.func 56) #[] #[p]) .nilFunc).run Tryd.prog w = .ok (.bool false) w := fun _ _ => by kernel_rfl
  gi_wp2_with (gi_at_call 43; refine (heldIt_in F (n - 1) h2f hro _ _).mono ?_; rintro e w' ⟨rfl, rfl⟩)
  have bO := (Boxed.new w 22 (.slice none 0 0)).alloc (.cells #[.pointer none] 36)
  have bP := Boxed.new (w.alloc (.cells #[.slice none 0 0] 22)) 36 (.pointer none)
  simp only [World.size_alloc] at bP
  have hB0 : Below w.heap.size w ((w.alloc (.cells #[.slice none 0 0] 22)).alloc (.cells #[.pointer none] 36)) := ((Below.refl _ w).alloc (Nat.le_refl _) _).alloc (by simp) _
  have hsz : ((w.alloc (.cells #[.slice none 0 0] 22)).alloc (.cells #[.pointer none] 36)).heap.size = w.heap.size + 2 := by simp
  obtain ⟨W0, hW0⟩ : ∃ W0, (w.alloc (.cells #[.slice none 0 0] 22)).alloc (.cells #[.pointer none] 36) = W0 := ⟨_, rfl⟩
  rw [hW0] at bO bP hB0 hsz ⊢
  clear hW0
  refine wpIn_rangeFunc_ownH hro h1 (gf := 56) (lb := #[.pointer (some ⟨w.heap.size + 1, 0, none⟩)]) rfl h3f (enters_of Tryd.func56 (by kernel_rfl) rfl)
    (held1_nil F (n - 1) h3f hro w.heap.size (w.heap.size + 1) W0 (by omega) bP.cell) belowK_t (belowK_b (by omega)) (Below.refl _ _) (fun x => x.elim)
    (fun pre W => Boxed W w.heap.size 22 (.slice none 0 0) ∧ Below w.heap.size w W)
    (fun _ _ _ => False)
    (OwnFrom.and (Own.from (boxed_own _ _ _) _) (ownFrom_below (Nat.le_refl _) (by omega)))
    (fun _ _ _ _ _ hs _ _ => hs)
    ⟨bO, hB0⟩ (fun x _ _ => x.elim) (fun x => x.elim)
    ?assign ?body ?done ?stop
  case assign => exact fun l pre x => x.elim
  case body => exact fun l pre x => x.elim
  case done =>
    rintro D xs W hD _ ⟨bO1, hB1⟩ hK
    have hc := bO1.cell
    gi_wp2
    refine ⟨by simp, .inl ⟨_, _, rfl, run_takeDeferred hK, ?_⟩⟩
    exact ⟨_, results_tmp rfl _ _ _, rfl, hB1.trans (belowK_b (w := w) (Nat.le_refl _) W D _ _ (by omega) hK rfl rfl)⟩
  case stop =>
    rintro D c pre W _ h _
    exact h.elim

theorem posts_nil_in (F : Fence) (n : Nat) (h1f : F.fn 21) (h2f : F.fn 44) (h3f : F.fn 59) (hro : F.round = none) (hn : 3 ≤ n) (w : World) :
    CallsIn F n Tryd.prog 21 #[.pointer none] w fun e w' => e = .returned (.tuple #[.slice none 0 0, .bool true]) ∧ Below w.heap.size w w' := by
  have h1 : 1 ≤ n := by omega
  refine callsIn_of_wp_marks Tryd.func21 rfl h1f ?_ hro
  simp only [Tryd.ntmps21, List.size_toArray, List.length_cons, List.length_nil, Nat.reduceAdd, Nat.reduceSub, Array.replicate_succ, Array.replicate_zero, List.push_toArray, List.append_toArray, List.nil_append, List.cons_append]
  have hnn : ∀ (p : Value) (w : World), (binOp BinOp.eql 82 (.func (.func 59) #[] #[p]) .nilFunc).run Tryd.prog w = .ok (.bool false) w := fun _ _ => by kernel_rfl
  gi_wp2_with (gi_at_call 44; refine (postsIt_in F (n - 1) h2f hro _ _).mono ?_; rintro e w' ⟨rfl, rfl⟩)
  have bO := ((Boxed.new w 33 (.slice none 0 0)).alloc (.cells #[.pointer none] 36)).alloc (.cells #[.bool true] 4)
  have bP := (Boxed.new (w.alloc (.cells #[.slice none 0 0] 33)) 36 (.pointer none)).alloc (.cells #[.bool true] 4)
  have bK := Boxed.new ((w.alloc (.cells #[.slice none 0 0] 33)).alloc (.cells #[.pointer none] 36)) 4 (.bool true)
  simp only [World.size_alloc] at bP bK
  have hB0 : Below w.heap.size w (((w.alloc (.cells #[.slice none 0 0] 33)).alloc (.cells #[.pointer none] 36)).alloc (.cells #[.bool true] 4)) := (((Below.refl _ w).alloc (Nat.le_refl _) _).alloc (by simp) _).alloc (by simp; omega) _
  have hsz : (((w.alloc (.cells #[.slice none 0 0] 33)).alloc (.cells #[.pointer none] 36)).alloc (.cells #[.bool true] 4)).heap.size = w.heap.size + 3 := by simp
  obtain ⟨W0, hW0⟩ : ∃ W0, ((w.alloc (.cells #[.slice none 0 0] 33)).alloc (.cells #[.pointer none] 36)).alloc (.cells #[.bool true] 4) = W0 := ⟨_, rfl⟩
  rw [hW0] at bO bP bK hB0 hsz ⊢
  clear hW0
  refine wpIn_rangeFunc_ownH hro h1 (gf := 59) (lb := #[.pointer (some ⟨w.heap.size + 1, 0, none⟩)]) rfl h3f (enters_of Tryd.func59 (by kernel_rfl) rfl)
    (posts1_nil F (n - 1) h3f hro w.heap.size (w.heap.size + 1) W0 (by omega) bP.cell) belowK_t (belowK_b (by omega)) (Below.refl _ _) (fun x => x.elim)
    (fun pre W => (Boxed W w.heap.size 33 (.slice none 0 0) ∧ Boxed W (w.heap.size + 1 + 1) 4 (.bool true)) ∧ Below w.heap.size w W)
    (fun _ _ _ => False)
    (OwnFrom.and (OwnFrom.and (Own.from (boxed_own _ _ _) _) (Own.from (boxed_own _ _ _) _)) (ownFrom_below (Nat.le_refl _) (by omega)))
    (fun _ _ _ _ _ hs _ _ => hs)
    ⟨⟨bO, bK⟩, hB0⟩ (fun x _ _ => x.elim) (fun x => x.elim)
    ?assign ?body ?done ?stop
  case assign => exact fun l pre x => x.elim
  case body => exact fun l pre x => x.elim
  case done =>
    rintro D xs W hD _ ⟨⟨bO1, bK1⟩, hB1⟩ hK
    have hc := bO1.cell
    have hk := bK1.cell
    gi_wp2
    have hd : W.drew.heap[D]? = some (.deferred (some [])) := hK
    have hBd : Below w.heap.size w (W.drew.putObj D (.deferred none)) := (hB1.drew).trans (belowK_b (w := w) (Nat.le_refl _) W.drew D _ _ (by omega) hd rfl rfl)
    gi_region
    all_goals gi_wp2
    all_goals
      refine ⟨by simp, .inl ⟨_, _, rfl, run_takeDeferred hd, ?_⟩⟩
      refine ⟨.tuple #[.slice none 0 0, .bool true], ?_, rfl, hBd⟩
      simp [results, Tryd.results21, go_sem]
  case stop =>
    rintro D c pre W _ h _
    exact h.elim

theorem total_nil_in (F : Fence) (n : Nat) (h1f : F.fn 24) (h2f : F.fn 43) (h3f : F.fn 56) (hro : F.round = none) (hn : 3 ≤ n) (c : ByteArray) (w : World) :
    CallsIn F n Tryd.prog 24 #[.pointer none, .string c] w fun e w' => e = .returned (.int .i64 0) ∧ Below w.heap.size w w' := by
  have h1 : 1 ≤ n := by omega
  refine callsIn_of_wp_marks Tryd.func24 rfl h1f ?_ hro
  simp only [Tryd.ntmps24, List.size_toArray, List.length_cons, List.length_nil, Nat.reduceAdd, Nat.reduceSub, Array.replicate_succ, Array.replicate_zero, List.push_toArray, List.append_toArray, List.nil_append, List.cons_append]
  gi_wp2_with (gi_at_call 43; refine (heldIt_in F (n - 1) h2f hro _ _).mono ?_; rintro e w' ⟨rfl, rfl⟩)
  have bO := (Boxed.new (w.alloc (.cells #[.string c] 9)) 2 (.int .i64 0)).alloc (.cells #[.pointer none] 36)
  have bP := Boxed.new ((w.alloc (.cells #[.string c] 9)).alloc (.cells #[.int .i64 0] 2)) 36 (.pointer none)
  simp only [World.size_alloc] at bO bP
  have hB0 : Below w.heap.size w (((w.alloc (.cells #[.string c] 9)).alloc (.cells #[.int .i64 0] 2)).alloc (.cells #[.pointer none] 36)) := (((Below.refl _ w).alloc (Nat.le_refl _) _).alloc (by simp) _).alloc (by simp; omega) _
  have hsz : (((w.alloc (.cells #[.string c] 9)).alloc (.cells #[.int .i64 0] 2)).alloc (.cells #[.pointer none] 36)).heap.size = w.heap.size + 3 := by simp
  obtain ⟨W0, hW0⟩ : ∃ W0, ((w.alloc (.cells #[.string c] 9)).alloc (.cells #[.int .i64 0] 2)).alloc (.cells #[.pointer none] 36) = W0 := ⟨_, rfl⟩
  rw [hW0] at bO bP hB0 hsz ⊢
  clear hW0
  refine wpIn_rangeFunc_ownH hro h1 (gf := 56) (lb := #[.pointer (some ⟨w.heap.size + 1 + 1, 0, none⟩)]) rfl h3f (enters_of Tryd.func56 (by kernel_rfl) rfl)
    (held1_nil F (n - 1) h3f hro w.heap.size (w.heap.size + 1 + 1) W0 (by omega) bP.cell) belowK_t (belowK_b (by omega)) (Below.refl _ _) (fun x => x.elim)
    (fun pre W => Boxed W (w.heap.size + 1) 2 (.int .i64 0) ∧ Below w.heap.size w W)
    (fun _ _ _ => False)
    (OwnFrom.and (Own.from (boxed_own _ _ _) _) (ownFrom_below (Nat.le_refl _) (by omega)))
    (fun _ _ _ _ _ hs _ _ => hs)
    ⟨bO, hB0⟩ (fun x _ _ => x.elim) (fun x => x.elim)
    ?assign ?body ?done ?stop
  case assign => exact fun l pre x => x.elim
  case body => exact fun l pre x => x.elim
  case done =>
    rintro D xs W hD _ ⟨bO1, hB1⟩ hK
    have hc := bO1.cell
    gi_wp2
    refine ⟨by simp, .inl ⟨_, _, rfl, run_takeDeferred hK, ?_⟩⟩
    exact ⟨_, results_tmp rfl _ _ _, rfl, hB1.trans (belowK_b (w := w) (Nat.le_refl _) W D _ _ (by omega) hK rfl rfl)⟩
  case stop =>
    rintro D c pre W _ h _
    exact h.elim

theorem post_nil (v : Value) (w : World) : Calls Tryd.prog 17 #[.pointer none, v] w fun e w' => e = .returned (.int .i64 1) ∧ Below w.heap.size w w' := by
  go_enter Tryd.func17, Tryd.ntmps17
  go_wp2_with fail
  go_ret
  exact ⟨rfl, by first | exact (Below.refl _ _).alloc (Nat.le_refl _) _ | exact Below.refl _ _⟩

theorem posts_nil (w : World) : Calls Tryd.prog 21 #[.pointer none] w fun e w' => e = .returned (.tuple #[.slice none 0 0, .bool true]) ∧ Below w.heap.size w w' :=
  callsIn_wide.1 (posts_nil_in Fence.wide 3 trivial trivial trivial rfl (by omega) w)
theorem held_nil (w : World) : Calls Tryd.prog 18 #[.pointer none] w fun e w' => e = .returned (.slice none 0 0) ∧ Below w.heap.size w w' :=
  callsIn_wide.1 (held_nil_in Fence.wide 3 trivial trivial trivial rfl (by omega) w)
theorem total_nil (c : ByteArray) (w : World) : Calls Tryd.prog 24 #[.pointer none, .string c] w fun e w' => e = .returned (.int .i64 0) ∧ Below w.heap.size w w' :=
  callsIn_wide.1 (total_nil_in Fence.wide 3 trivial trivial trivial rfl (by omega) c w)

/-- **LedgerNone**. -/
theorem law_none (v : Value) (p c : ByteArray) (w : World) : Calls Tryd.prog 9 #[v, .string p, .string c] w (True1 w) := by
  go_enter Tryd.func9, Tryd.ntmps9
  go_wp2_with fail
  refine (shown_any w).mono ?_
  rintro e w1 ⟨rfl, b1⟩
  go_wp2_with fail
  refine (post_nil v w1).mono ?_
  rintro e w2 ⟨rfl, b2⟩
  have HB2 := hid' (Below.more b1 b2)
  clear b1 b2
  go_wp2_with fail
  refine (posts_nil w2).mono ?_
  rintro e w3 ⟨rfl, b3⟩
  have HB3 := hid' (Below.more HB2.out b3)
  clear b3
  go_wp2_with fail
  refine (balance_nil p c w3).mono ?_
  rintro e w4 ⟨rfl, rfl⟩
  go_wp2_with fail
  refine (total_nil c w4).mono ?_
  rintro e w5 ⟨rfl, b5⟩
  have HB5 := hid' (Below.more HB3.out b5)
  clear b5
  go_wp2_with fail
  refine (held_nil w5).mono ?_
  rintro e w6 ⟨rfl, b6⟩
  have HB6 := hid' (Below.more HB5.out b6)
  clear b6
  go_wp2_with fail
  go_ret
  exact ⟨rfl, HB6.out⟩
end Go.Proofs.YtmmbhmlhenpgbaaDoor
