/- Proved: slices.Clone at a feed's stamps: a fresh row of the same stamps. -/
import Derived.Test.YtmddaomchhigbaaGreatDoorOrcTake2
namespace Go.Proofs.YtmddaomchhigbaaGreatDoor
open Go.RowKit Go.Maps
open Led Orc
set_option linter.unusedVariables false
set_option linter.unusedSimpArgs false
set_option maxRecDepth 100000
theorem stampCells_one (L : List (Int × Int)) : ∀ u ∈ stampCells L, u.oneCell' = true := by
  induction L with
  | nil => intro u h; simp [stampCells] at h
  | cons x t ih =>
    intro u h
    simp only [stampCells, List.mem_cons] at h
    rcases h with rfl | rfl | h
    · rfl
    · rfl
    · exact ih u h
def StampFresh (w : World) (L : List (Int × Int)) (e : Ending) (w' : World) : Prop := ∃ v, e = .returned v ∧ StampRow w.heap.size w' v L ∧ Below w.heap.size w w'
set_option maxHeartbeats 2000000 in
theorem cloneStamps_any (base : Nat) (v : Value) (L : List (Int × Int)) (w : World) (h : StampRow base w v L) (hl : L.length ≤ 4096) : Calls Tryz.prog 44 #[v] w (StampFresh w L) := by
  have HB := hid' hl
  have hn1 : ∀ (p : Option Addr) (n c : Nat) (w : World), (binOp BinOp.eql 50 (.slice p n c) (.slice none 0 0)).run Tryz.prog w = .ok (.bool p.isNone) w := by intro p n c w; cases p <;> kernel_rfl
  clear hl
  have h0 := h
  obtain ⟨hlen, ⟨rfl, hz⟩ | ⟨g, cap, cur, rfl, h3, h4, h5⟩⟩ := h
  · have hL : L = [] := List.length_eq_zero_iff.1 hz
    have HL := hid' hL
    clear h0 hlen hz hL
    go_enter Tryz.func44, Tryz.ntmps44
    go_wp2_with fail
    go_ret
    exact ⟨_, rfl, by rw [HL.out]; exact StampRow.nil _ _, Below.refl _ _⟩
  · have HR := hid' (show ∀ (j : Nat) (u : Value), (stampCells L)[j]? = some u → (w.alloc (.cells #[] 54)).cell? ((⟨g, 0, none⟩ : Addr).add j) = some u from fun j u hj => by rw [add_gen]; have := World.ownsRow.cells h0 rfl j u hj; rw [add_gen] at this; exact alloc_cell this _)
    have HO := hid' (stampCells_one L)
    have HN := hid' hlen
    clear hlen h0 h3 h4 h5
    obtain ⟨i, hi, hz, hsz, hby⟩ := info_parts info_stamp
    have hmade : (w.alloc (.cells #[] 54)).ownsRow w.heap.size 54 2 (.slice (some ⟨w.heap.size, 0, none⟩) 0 0) 0 [] := World.ownsRow_made w #[] 0 (Nat.le_refl _) (by decide) (by simp)
    have HM := hid' hmade
    have HI := hid' hi
    have HZ := hid' (And.intro hz (And.intro hsz hby))
    clear hmade hi hz hsz hby
    go_enter Tryz.func44, Tryz.ntmps44
    go_wp2_with (refine wpList_append_own _ rfl _ _ 50 rfl w.heap.size 54 i _ 2 16 Tryz.underlying50 HI.out HZ.out.1 HZ.out.2.1 HZ.out.2.2 rfl (by decide) _ 0 [] rfl HM.out ⟨g, 0, none⟩ L.length cap (stampCells L) rfl HN.out HR.out HO.out (by unfold maxLen; have := HB.out; omega) (by have := HB.out; omega) (by simp) (fun v' w' h1 h2 _ => ?_); refine halt' ?_)
    have H3 := hid' (show StampRow w.heap.size w' v' L by have := h1; rwa [Nat.zero_add, List.nil_append] at this)
    have H4 := hid' (show Below w.heap.size w w' from (((Below.refl _ _).alloc (Nat.le_refl _) _)).grown h2 (by simp) (fun k e => by cases e; exact Nat.le_refl _))
    clear h1 h2
    refine hid' ?_
    go_wp2_with fail
    go_ret
    exact ⟨_, rfl, H3.out, H4.out⟩
end Go.Proofs.YtmddaomchhigbaaGreatDoor
