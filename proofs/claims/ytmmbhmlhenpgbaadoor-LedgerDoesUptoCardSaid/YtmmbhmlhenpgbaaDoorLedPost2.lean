/- Proved: a leg is laid into the ledger's next map: one round of Post's inner loop; legs are cloned. -/
import Derived.Test.YtmmbhmlhenpgbaaDoorLedPost1
import Derived.Test.YtmmbhmlhenpgbaaDoorRefDec
namespace Go.Proofs.YtmmbhmlhenpgbaaDoor
open Go.RowKit
open Led
set_option linter.unusedVariables false
set_option linter.unusedSimpArgs false
set_option maxRecDepth 100000
theorem legCells_mem {w : World} {b : Nat} : ∀ (L : List Leg) (off : Nat), LegCells w b off L → ∀ j u, (legCells L)[j]? = some u → w.cell? ⟨b, off + j, none⟩ = some u := by
  intro L
  induction L with
  | nil => intro off h j u hj; simp [legCells] at hj
  | cons x t ih =>
    intro off h j u hj
    obtain ⟨h1, h2, h3, _⟩ := h 0 x rfl
    rw [Nat.zero_mul, Nat.add_zero] at h1 h2 h3
    match j, hj with
    | 0, hj => simp [legCells] at hj; subst hj; exact h1
    | 1, hj => simp [legCells] at hj; subst hj; exact h2
    | 2, hj => simp [legCells] at hj; subst hj; exact h3
    | j + 3, hj =>
      have ht : LegCells w b (off + 3) t := by
        intro i y hy
        have := h (i + 1) y (by simpa using hy)
        rw [show off + (i + 1) * 3 = off + 3 + i * 3 by omega] at this
        exact this
      have := ih (off + 3) ht j u (by simpa [legCells] using hj)
      rw [show off + 3 + j = off + (j + 3) by omega] at this
      exact this
theorem add_gen (b off j : Nat) : (⟨b, off, none⟩ : Addr).add j = ⟨b, off + j, none⟩ := by unfold Addr.add; split <;> simp_all
theorem legCells_one (L : List Leg) : ∀ u ∈ legCells L, u.oneCell' = true := by
  induction L with
  | nil => intro u h; simp [legCells] at h
  | cons x t ih =>
    intro u h
    simp only [legCells, List.mem_cons] at h
    rcases h with rfl | rfl | rfl | h
    · rfl
    · rfl
    · rfl
    · exact ih u h
/-- A right posting has legs. -/
theorem right_ne {p : Post} (h : right p = true) : p.legs ≠ [] := by
  intro e
  have := (head_parts (right_parts h).1).2.2.2.2.1
  rw [e] at this
  simp at this
def LegFresh (w : World) (L : List Leg) (e : Ending) (w' : World) : Prop := ∃ v, e = .returned v ∧ LegRow w.heap.size w' v L ∧ Below w.heap.size w w'
set_option maxHeartbeats 2000000 in
theorem cloneLegs_any (v : Value) (L : List Leg) (w : World) (h : LegsAt w v L) (hne : L ≠ []) (hl : L.length ≤ 1000000) : Calls Tryd.prog 42 #[v] w (LegFresh w L) := by
  have HB := hid' hl
  have hn1 : ∀ (p : Option Addr) (n c : Nat) (w : World), (binOp BinOp.eql 22 (.slice p n c) (.slice none 0 0)).run Tryd.prog w = .ok (.bool p.isNone) w := by intro p n c w; cases p <;> kernel_rfl
  clear hl
  rcases h with ⟨_, rfl⟩ | ⟨b, off, c, rfl, hc, hm, hb, hcell⟩
  · exact absurd rfl hne
  · have HR := hid' (show ∀ (j : Nat) (u : Value), (legCells L)[j]? = some u → (w.alloc (.cells #[] 41)).cell? ((⟨b, off, none⟩ : Addr).add j) = some u from fun j u hj => by rw [add_gen]; exact alloc_cell (legCells_mem L off hcell j u hj) _)
    have HO := hid' (legCells_one L)
    clear hcell
    obtain ⟨i, hi, hz, hsz, hby⟩ := info_parts info_leg
    have hmade : (w.alloc (.cells #[] 41)).ownsRow w.heap.size 41 3 (.slice (some ⟨w.heap.size, 0, none⟩) 0 0) 0 [] := World.ownsRow_made w #[] 0 (Nat.le_refl _) (by decide) (by simp)
    have HM := hid' hmade
    have HI := hid' hi
    have HZ := hid' (And.intro hz (And.intro hsz hby))
    clear hmade hi hz hsz hby
    go_enter Tryd.func42, Tryd.ntmps42
    go_wp2_with (refine wpList_append_own _ rfl _ _ 22 rfl w.heap.size 41 i _ 3 40 Tryd.underlying22 HI.out HZ.out.1 HZ.out.2.1 HZ.out.2.2 rfl (by decide) _ 0 [] rfl HM.out ⟨b, off, none⟩ L.length c (legCells L) rfl (legCells_len L) HR.out HO.out (by unfold maxLen; have := HB.out; omega) (by have := HB.out; omega) (by simp) (fun v' w' h1 h2 _ => ?_); refine halt' ?_)
    have H3 := hid' (show LegRow w.heap.size w' v' L by have := h1; rwa [Nat.zero_add, List.nil_append] at this)
    have H4 := hid' (show Below w.heap.size w w' from (((Below.refl _ _).alloc (Nat.le_refl _) _)).grown h2 (by simp) (fun k e => by cases e; exact Nat.le_refl _))
    clear h1 h2
    refine hid' ?_
    go_wp2_with fail
    go_ret
    exact ⟨_, rfl, H3.out, H4.out⟩
end Go.Proofs.YtmmbhmlhenpgbaaDoor
