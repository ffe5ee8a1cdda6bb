/- Proved: usancelaw17's shown says yes. -/
import Derived.Test.YtiejoapnljkjdaaGreatDoorGenShow3
namespace Go.Proofs.YtiejoapnljkjdaaGreatDoor
open Go.RowKit
set_option linter.unusedVariables false
set_option linter.unusedSimpArgs false
set_option maxRecDepth 100000
def eur : ByteArray := ⟨#[69, 85, 82]⟩
theorem eur_cur : Led.isCur eur = true := by decide +kernel
theorem eur_right : Gen.right ⟨0, [], ins1 eur⟩ = true := by decide +kernel
set_option maxHeartbeats 4000000 in
theorem shown_any (w : World) : Calls Tryz.prog 6 #[] w (True1 w) := by
  have HC := hid' (compile_one eur w eur_cur (by decide))
  have HRT := hid' eur_right
  unfold core0 at HC
  rw [show eur = ⟨#[69, 85, 82]⟩ from rfl] at HC
  go_enter Tryz.func6, Tryz.ntmps6
  go_wp2_with fail
  refine HC.out.mono ?_
  rintro e w2 ⟨p, n, c, rfl, hins, hb2⟩
  have B3 := (Below.refl w2.heap.size w2).alloc (Nat.le_refl _) (.cells #[.int .i64 0, .slice none 0 0, .slice p n c] 25)
  have hcd : CdAt (w2.alloc (.cells #[.int .i64 0, .slice none 0 0, .slice p n c] 25)) (.agg #[.int .i64 0, .slice none 0 0, .slice p n c]) ⟨0, [], ins1 eur⟩ :=
    ⟨_, _, rfl, ⟨none, 0, rfl, ⟨Nat.le_refl _, Nat.zero_le _⟩, fun i w h => by cases h⟩, hins.below B3, ⟨by decide, by decide⟩⟩
  have H3 := hid' (And.intro (heap_alloc_new w2 (.cells #[.int .i64 0, .slice none 0 0, .slice p n c] 25)) (And.intro hcd (Below.more hb2 B3)))
  clear hins hb2 B3 hcd HC
  go_upto_region 2 with (fail)
  generalize w2.alloc (.cells #[.int .i64 0, .slice none 0 0, .slice p n c] 25) = w3 at *
  generalize w2.heap.size = tb at *
  have c0 := bcells H3.out.1 0 _ rfl
  have c1 := bcells H3.out.1 1 _ rfl
  have c2 := bcells H3.out.1 2 _ rfl
  have HRR := hid' (refRight_any _ _ w3 H3.out.2.1)
  rw [HRT.out] at HRR
  go_wp2_with fail
  refine HRR.out.mono ?_
  rintro e w4 ⟨rfl, b4⟩
  have BR := (Below.refl w4.heap.size w4).alloc (Nat.le_refl _) (.cells #[.int .i64 3, .slice none 0 0, .slice none 0 0, .slice none 0 0, .int .i64 0, .bool false] 48)
  obtain ⟨vw', vi', ev, -, hi4, -⟩ := H3.out.2.1.below b4
  obtain ⟨-, rfl, rfl⟩ : (0 : Int) = 0 ∧ Value.slice none 0 0 = vw' ∧ Value.slice p n c = vi' := by simpa using ev
  have HFR := hid' (from_one w4.heap.size eur p n c w4 (w4.alloc (.cells #[.int .i64 3, .slice none 0 0, .slice none 0 0, .slice none 0 0, .int .i64 0, .bool false] 48)) (heap_alloc_new w4 _) hi4 BR (Nat.le_refl _))
  have hcb := box_below (Below.more b4 BR) H3.out.1
  have d0 := bcells hcb 0 _ rfl
  have d1 := bcells hcb 1 _ rfl
  have d2 := bcells hcb 2 _ rfl
  have H4 := hid' (Below.more H3.out.2.2 b4)
  clear b4 BR hcb hi4 ev c0 c1 c2 HRR
  go_wp2_with fail
  refine HFR.out.mono ?_
  rintro e w5 ⟨⟨r, rfl⟩, g, k, hrun, z0, z1, z2, hb5⟩
  rw [show eur = ⟨#[69, 85, 82]⟩ from rfl] at z1
  have r2 := bcells hrun 2 _ rfl
  have r3 := bcells hrun 3 _ rfl
  have HB5 := hid' (H4.out.trans (⟨hb5.os, hb5.tape, hb5.output, Nat.le_trans (by simp) hb5.size, fun j hj => (hb5.block j (Nat.lt_of_lt_of_le hj H4.out.size)).trans (Below.heap_alloc _ _ _ (Nat.lt_of_lt_of_le hj H4.out.size))⟩ : Below w.heap.size w4 w5))
  clear hrun hb5 HFR d0 d1 d2
  go_wp2_with fail
  go_ret
  exact ⟨rfl, HB5.out⟩
end Go.Proofs.YtiejoapnljkjdaaGreatDoor
