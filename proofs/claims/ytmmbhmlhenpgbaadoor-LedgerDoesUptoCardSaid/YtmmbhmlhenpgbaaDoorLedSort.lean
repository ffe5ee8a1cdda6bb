/- Proved: ledger's accounts in order: compare as a strict order, and its walk with the worlds written out, for slices.SortFunc. -/
import Derived.Test.YtmmbhmlhenpgbaaDoorLedKeys
import Derived.Shelf.SlSortCmp.WholeK
import Derived.Shelf.SlSortCmp.NoneTotal
import Derived.Shelf.Lay
namespace Go.Proofs.YtmmbhmlhenpgbaaDoor
open Go.RowKit Go.Shelf Go.Sort
open Led
set_option linter.unusedVariables false
set_option linter.unusedSimpArgs false
set_option maxRecDepth 100000
set_option maxHeartbeats 2000000 in
theorem comp_grow (p c p' c' : ByteArray) (w : World) : Calls Tryd.prog 48 #[.agg #[.string p, .string c], .agg #[.string p', .string c']] w
    (fun e w' => e = .returned (.int .i64 (cmp p c p' c')) ∧ ∃ q os', w' = Go.Sort.grow (w.drewN q) os') := by
  have H1 := hid' (fun w => Tryd.strings_Compare p p' w)
  have H2 := hid' (fun w => Tryd.strings_Compare c c' w)
  have HC := hid' (show cmp p c p' c' = orI (Lib.compareBytes p.data.toList p'.data.toList) (Lib.compareBytes c.data.toList c'.data.toList) from rfl)
  generalize Lib.compareBytes p.data.toList p'.data.toList = x at *
  generalize Lib.compareBytes c.data.toList c'.data.toList = y at *
  go_enter Tryd.func48, Tryd.ntmps48
  go_wp2_with fail
  obtain ⟨W, hW⟩ : ∃ W, (w.alloc (.cells #[.string p, .string c] 75)).alloc (.cells #[.string p', .string c'] 75) = W := ⟨_, rfl⟩
  have c0 : W.cell? ⟨w.heap.size, 0, none⟩ = some (.string p) := by rw [← hW, World.cell?_alloc_old _ _ _ (by simp)]; exact new_cell rfl rfl
  have c1 : W.cell? ⟨w.heap.size, 1, none⟩ = some (.string c) := by rw [← hW, World.cell?_alloc_old _ _ _ (by simp)]; exact new_cell rfl rfl
  have c2 : W.cell? ⟨w.heap.size + 1, 0, none⟩ = some (.string p') := by rw [← hW]; exact new_cell (by simp) rfl
  have c3 : W.cell? ⟨w.heap.size + 1, 1, none⟩ = some (.string c') := by rw [← hW]; exact new_cell (by simp) rfl
  have hB := hid' (show ∃ os', W = Go.Sort.grow w os' from ⟨_, by rw [← hW, Go.Sort.alloc_eq_grow, Go.Sort.alloc_eq_grow, Go.Sort.grow_grow]⟩)
  rw [hW]
  clear hW
  refine wp_region_still_tail 10 (by kernel_rfl) (by kernel_rfl) ?_
  simp only [List.take_succ_cons, List.take_zero, List.drop_succ_cons, List.drop_zero]
  iterate 4 still_step
  still_call (H1.out _)
  iterate 4 still_step
  still_call (H2.out _)
  refine wpStill_nil ?_
  change wpList _ _ _ _ _ (World.drew _)
  go_wp2_with fail
  refine (or_any _ _ x y _ (drew_cell (new_cell rfl rfl)) (drew_cell (new_cell rfl rfl))).mono ?_
  rintro e w1 ⟨rfl, rfl⟩
  go_wp2_with fail
  go_ret
  obtain ⟨os', e⟩ := hB.out
  refine ⟨by rw [HC.out]; rfl, 1, os' ++ #[.cells #[.int .i64 x, .int .i64 y] 3], ?_⟩
  subst e
  rw [Go.Sort.alloc_eq_grow, Go.Sort.grow_grow]
  rfl

open Lib in
theorem compareBytes_cases : ∀ a b : List UInt8, Lib.compareBytes a b = -1 ∨ Lib.compareBytes a b = 0 ∨ Lib.compareBytes a b = 1
  | [], [] => by simp [Lib.compareBytes]
  | [], _ :: _ => by simp [Lib.compareBytes]
  | _ :: _, [] => by simp [Lib.compareBytes]
  | x :: a, y :: b => by
    have ih := compareBytes_cases a b
    rw [Lib.compareBytes]
    split
    · simp
    · split
      · simp
      · exact ih
theorem compareBytes_neg : ∀ a b : List UInt8, Lib.compareBytes a b = - Lib.compareBytes b a
  | [], [] => by simp [Lib.compareBytes]
  | [], _ :: _ => by simp [Lib.compareBytes]
  | _ :: _, [] => by simp [Lib.compareBytes]
  | x :: a, y :: b => by
    have ih := compareBytes_neg a b
    rw [Lib.compareBytes, Lib.compareBytes]
    have hx := UInt8.lt_iff_toNat_lt (a := x) (b := y)
    have hy := UInt8.lt_iff_toNat_lt (a := y) (b := x)
    by_cases h1 : x < y
    · have h2 : ¬ y < x := by rw [hy]; rw [hx] at h1; omega
      simp [h1, h2]
    · by_cases h2 : y < x
      · simp [h1, h2]
      · simp [h1, h2, ih]
theorem compareBytes_trans : ∀ a b c : List UInt8, Lib.compareBytes a b < 0 → Lib.compareBytes b c < 0 → Lib.compareBytes a c < 0
  | [], _, [], h1, h2 => by
    rename_i b
    cases b <;> simp [Lib.compareBytes] at h1 h2
  | [], _, _ :: _, _, _ => by simp [Lib.compareBytes]
  | _ :: _, [], _, h1, _ => by simp [Lib.compareBytes] at h1
  | _ :: _, _ :: _, [], _, h2 => by simp [Lib.compareBytes] at h2
  | x :: a, y :: b, z :: c, h1, h2 => by
    have ih := compareBytes_trans a b c
    rw [Lib.compareBytes] at h1 h2 ⊢
    have e1 := UInt8.lt_iff_toNat_lt (a := x) (b := y)
    have e2 := UInt8.lt_iff_toNat_lt (a := y) (b := x)
    have e3 := UInt8.lt_iff_toNat_lt (a := y) (b := z)
    have e4 := UInt8.lt_iff_toNat_lt (a := z) (b := y)
    have e5 := UInt8.lt_iff_toNat_lt (a := x) (b := z)
    have e6 := UInt8.lt_iff_toNat_lt (a := z) (b := x)
    simp only [e1, e2, e3, e4, e5, e6] at h1 h2 ⊢
    split at h1 <;> split at h2 <;> (try split at h1) <;> (try split at h2) <;> simp_all <;> (repeat' split) <;> first | omega | (exact ih h1 h2) | simp_all

theorem compareBytes_eq {a b : List UInt8} (h : Lib.compareBytes a b = 0) : a = b := by
  induction a generalizing b with
  | nil => cases b <;> simp [Lib.compareBytes] at h ⊢
  | cons x a ih =>
    cases b with
    | nil => simp [Lib.compareBytes] at h
    | cons y b =>
      rw [Lib.compareBytes] at h
      have e1 := UInt8.lt_iff_toNat_lt (a := x) (b := y)
      have e2 := UInt8.lt_iff_toNat_lt (a := y) (b := x)
      by_cases h1 : x < y
      · simp [h1] at h
      · by_cases h2 : y < x
        · simp [h1, h2] at h
        · simp only [h1, h2, if_false] at h
          rw [ih h]
          have : x = y := UInt8.toNat_inj.1 (by rw [e1] at h1; rw [e2] at h2; omega)
          rw [this]
theorem compareBytes_self (a : List UInt8) : Lib.compareBytes a a = 0 := by have := compareBytes_neg a a; omega
/-- Accounts in order. -/
def Acc.cf (x y : Acc) : Int := cmp x.p x.c y.p y.c
theorem Acc.cf_neg (x y : Acc) : x.cf y = - y.cf x := by
  unfold Acc.cf cmp
  have h1 := compareBytes_neg x.p.data.toList y.p.data.toList
  have h2 := compareBytes_neg x.c.data.toList y.c.data.toList
  split <;> split <;> omega
theorem Acc.cf_zero {x y : Acc} (h : x.cf y = 0) : x = y := by
  obtain ⟨p, c, _, _⟩ := x
  obtain ⟨p', c', _, _⟩ := y
  unfold Acc.cf cmp at h
  dsimp only at h
  split at h
  · contradiction
  · rename_i h1
    have e1 := ba_ext (compareBytes_eq (by simpa using h1))
    have e2 := ba_ext (compareBytes_eq h)
    subst e1
    subst e2
    rfl
theorem cmp_if (p c p' c' : ByteArray) (a b : Int) (h1 : Lib.compareBytes p.data.toList p'.data.toList = a) (h2 : Lib.compareBytes c.data.toList c'.data.toList = b) : cmp p c p' c' = if a ≠ 0 then a else b := by
  unfold cmp
  rw [h1, h2]
theorem Acc.cf_trans {x y z : Acc} (h1 : x.cf y < 0) (h2 : y.cf z < 0) : x.cf z < 0 := by
  unfold Acc.cf at *
  have t1 := compareBytes_trans x.p.data.toList y.p.data.toList z.p.data.toList
  have t2 := compareBytes_trans x.c.data.toList y.c.data.toList z.c.data.toList
  have q1 : Lib.compareBytes x.p.data.toList y.p.data.toList = 0 → Lib.compareBytes x.p.data.toList z.p.data.toList = Lib.compareBytes y.p.data.toList z.p.data.toList := fun e => by rw [compareBytes_eq e]
  have q2 : Lib.compareBytes y.p.data.toList z.p.data.toList = 0 → Lib.compareBytes x.p.data.toList z.p.data.toList = Lib.compareBytes x.p.data.toList y.p.data.toList := fun e => by rw [compareBytes_eq e]
  rw [cmp_if _ _ _ _ _ _ rfl rfl] at *
  generalize Lib.compareBytes x.p.data.toList y.p.data.toList = a1 at *
  generalize Lib.compareBytes y.p.data.toList z.p.data.toList = a2 at *
  generalize Lib.compareBytes x.p.data.toList z.p.data.toList = a3 at *
  generalize Lib.compareBytes x.c.data.toList y.c.data.toList = b1 at *
  generalize Lib.compareBytes y.c.data.toList z.c.data.toList = b2 at *
  generalize Lib.compareBytes x.c.data.toList z.c.data.toList = b3 at *
  split at h1 <;> split at h2 <;> split <;> omega

theorem Acc.cf_self (x : Acc) : x.cf x = 0 := by have := Acc.cf_neg x x; omega
theorem Acc.swo : Go.Sort.SWO (ltOf Acc.cf) where
  irrefl x := by unfold ltOf; rw [Acc.cf_self]; rfl
  trans x y z h1 h2 := by
    unfold ltOf at *
    exact decide_eq_true (Acc.cf_trans (of_decide_eq_true h1) (of_decide_eq_true h2))
  ntrans x y z h1 h2 := by
    unfold ltOf at *
    have g1 := of_decide_eq_false h1
    have g2 := of_decide_eq_false h2
    refine decide_eq_false (fun h => ?_)
    have n1 := Acc.cf_neg x y
    have n2 := Acc.cf_neg y z
    by_cases e1 : x.cf y = 0
    · rw [Acc.cf_zero e1] at h; exact g2 h
    · have := Acc.cf_trans (x := y) (y := x) (z := z) (by omega) h
      exact g2 this
theorem Acc.total (x y : Acc) (h1 : ltOf Acc.cf x y = false) (h2 : ltOf Acc.cf y x = false) : x = y := by
  unfold ltOf at *
  have g1 := of_decide_eq_false h1
  have g2 := of_decide_eq_false h2
  have n1 := Acc.cf_neg x y
  exact Acc.cf_zero (by omega)

instance : Inhabited Acc := ⟨⟨⟨#[]⟩, ⟨#[]⟩, by decide, by decide⟩⟩
/-- An account's two cells. -/
def Acc.cells (x : Acc) : List Value := [.string x.p, .string x.c]
theorem cmpLays_acc (blk off size : Nat) (w : World) : CmpLays Tryd.prog 48 #[] Acc.cells 2 Acc.cf blk off size w :=
  fun _ _ _ _ (x y : Acc) => comp_grow x.p x.c y.p y.c _
end Go.Proofs.YtmmbhmlhenpgbaaDoor
