/- Proved: the reference's Balance. -/
import Derived.Test.YtmmbhmlhenpgbaaDoorRefPost
namespace Go.Proofs.YtmmbhmlhenpgbaaDoor
open Go.RowKit
open Led
set_option linter.unusedVariables false
set_option linter.unusedSimpArgs false
set_option maxRecDepth 100000

set_option maxHeartbeats 4000000 in
theorem refBalance_any (base rb : Nat) (w0 : World) (pv : Value) (S : List Post) (w : World) (h : RefIs base rb w0 pv S w) (p c : ByteArray) :
    Calls Tryd.prog 23 #[.pointer (some ⟨rb, 0, none⟩), .string p, .string c] w (Ret (.int .i64 (balR p c (heldR S))) w) := by
  have HWD := hid' h.wide
  obtain ⟨hv, q, h1, h2, h3, h4, h5⟩ := h.at'
  obtain ⟨hp, hc, hhv⟩ := h5.form
  subst hhv
  have HR := hid' (h5.wide HWD.out)
  have hHl : ((heldR S).length : Int) ≤ 256 := by have := h.held; omega
  obtain ⟨c0, c1, cf⟩ := heap_cells2 h1
  generalize heldR S = L at *
  have HD := hid' (show balR p c L = balR p c (L.drop 0) by rw [List.drop_zero])
  clear h h1 h2 h3 h4 h5 c0 cf
  go_enter Tryd.func23, Tryd.ntmps23
  go_wp2_with fail
  go_loop [7] (fun iv => ∃ i : Nat, iv = .int .i64 (i : Int) ∧ i ≤ L.length ∧ Hid (balR p c L = balR p c (L.drop i))) (fun iv => L.length - (intOf iv).toNat)
  case atStart => exact ⟨0, rfl, Nat.zero_le _, HD⟩
  case round =>
    obtain ⟨i, rfl, hi, HB⟩ := hrel
    by_cases hin : i < L.length
    · obtain ⟨x, hx⟩ : ∃ x, L[i]? = some x := ⟨_, List.getElem?_eq_getElem hin⟩
      obtain ⟨b, off, cc, hv, y0, y1, y2⟩ := LegsAt.cells HR.out (Below.refl _ _) hx
      obtain ⟨rfl, rfl⟩ : hp = some ⟨b, off, none⟩ ∧ hc = cc := by simp at hv; exact hv
      have g0 : decide ((i : Int) < (L.length : Int)) = true := by simp; omega
      have j1 : (0 : Int) ≤ (i : Int) := by omega
      have j2 : (i : Int) < (L.length : Int) := by omega
      have HDR := hid' (show L.drop i = x :: L.drop (i + 1) by
        obtain ⟨hlt, e⟩ := List.getElem?_eq_some_iff.1 hx
        rw [List.drop_eq_getElem_cons hlt, e])
      clear hv hx hin
      by_cases e1 : x.party = p
      · have f1 : (x.party.toList == p.toList) = true := by rw [e1]; simp
        by_cases e2 : x.cur = c
        · have f2 : (x.cur.toList == c.toList) = true := by rw [e2]; simp
          have HV := hid' (show x.amount = balR p c L by rw [HB.out, HDR.out]; unfold balR; rw [if_pos ⟨e1, e2⟩])
          clear e1 e2
          go_wp2_with fail
          go_ret
          exact ⟨show Ending.returned (.int .i64 x.amount) = _ by rw [HV.out], rfl⟩
        · have f2 : (x.cur.toList == c.toList) = false := by
            rw [beq_eq_false_iff_ne]
            intro e
            rw [ByteArray.toList_eq, ByteArray.toList_eq] at e
            exact e2 (ba_ext e)
          have HN := hid' (show balR p c L = balR p c (L.drop (i + 1)) by rw [HB.out, HDR.out]; exact if_neg (fun h => e2 h.2))
          clear e1 e2
          go_wp2_with fail
          go_round
          case rel => exact ⟨i + 1, by go_num, by omega, HN⟩
          case measure => simp [intOf]; omega
      · have f1 : (x.party.toList == p.toList) = false := by
          rw [beq_eq_false_iff_ne]
          intro e
          rw [ByteArray.toList_eq, ByteArray.toList_eq] at e
          exact e1 (ba_ext e)
        have HN := hid' (show balR p c L = balR p c (L.drop (i + 1)) by rw [HB.out, HDR.out]; exact if_neg (fun h => e1 h.1))
        clear e1
        go_wp2_with fail
        go_round
        case rel => exact ⟨i + 1, by go_num, by omega, HN⟩
        case measure => simp [intOf]; omega
    · obtain rfl : i = L.length := by omega
      have g9 : decide (L.length < L.length) = false := by simp
      have HZ := hid' (show (0 : Int) = balR p c L by rw [HB.out, List.drop_length]; rfl)
      clear hin
      go_wp2_with fail
      go_ret
      exact ⟨show Ending.returned (.int .i64 0) = _ by rw [← HZ.out], rfl⟩
end Go.Proofs.YtmmbhmlhenpgbaaDoor
