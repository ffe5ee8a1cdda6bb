/- Digits read: the reference's Unhex. -/
import Derived.Test.YthhmedpafjdocaaDoorMacUnhex
import Derived.Test.YthhmedpafjdocaaDoorMacRefHex
namespace Go.Proofs.YthhmedpafjdocaaDoor
open Go.RowKit
set_option linter.unusedVariables false

theorem range_succ_pv (l : List Int) (t : Nat) : (List.range (t + 1)).map (pv l) = (List.range t).map (pv l) ++ [pv l t] := by
  rw [List.range_succ, List.map_append]
  rfl

set_option maxHeartbeats 1000000 in
theorem refunhex_any (s : ByteArray) (w : World) (hs : s.size ≤ 10000000000000) :
    Calls Tryd.prog 16 #[.string s] w (UnhexPost w (Sha.nums s)) := by
  by_cases hodd : s.size % 2 = 1
  · have hn := unhexs_odd (s.size / 2) (Sha.nums s) (by rw [Sha.nums_length]; omega)
    have HN := hid' hn
    clear hn
    have t1 : ((s.size : Int) % 2 == 0) = false := by rw [beq_eq_false_iff_ne]; omega
    have t2 : ((s.size : Int) % 2 != 0) = true := by rw [bne_iff_ne]; omega
    have t3 : (0 : Int) ≤ (s.size : Int) := by omega
    clear hodd
    go_enter Tryd.func16, Tryd.ntmps16
    go_wp2_with fail
    go_ret2
    exact ⟨by rw [HN.out]; rfl, Below.refl _ _⟩
  · obtain ⟨n, hn⟩ : ∃ n, s.size = 2 * n := ⟨s.size / 2, by omega⟩
    have hL : (Sha.nums s).length = 2 * n := by rw [Sha.nums_length]; exact hn
    have t1 : ((s.size : Int) % 2 == 0) = true := by rw [beq_iff_eq]; omega
    have t2 : ((s.size : Int) % 2 != 0) = false := by rw [bne_eq_false_iff_eq]; omega
    have t3 : (0 : Int) ≤ (s.size : Int) := by omega
    have t4 : (s.size : Int) / 2 = (n : Int) := by omega
    have hmk := make_bytes w 0 n (by omega) (by omega)
    rw [show ((0 : Nat) : Int) = 0 from rfl] at hmk
    have H0 : HexAt w (w.alloc (.cells (Array.replicate n (.int .u8 0)) 5)) (.slice (some ⟨w.heap.size, 0, none⟩) 0 n) [] :=
      ⟨(Below.refl _ _).alloc (Nat.le_refl _) _, by have := Owns.made (Nat.le_refl w.heap.size) (Array.replicate n (.int .u8 0)) (by rw [Array.size_replicate]; unfold maxLen; omega); rwa [Array.size_replicate] at this⟩
    have HNN := hid' hn
    have HLL := hid' hL
    have hnb : n ≤ 10000000000000 := by omega
    clear hodd hn hL
    go_enter Tryd.func16, Tryd.ntmps16
    go_wp2_with fail
    clear hmk t1 t2
    go_loopw [4, 5] (fun v vi wr => ∃ t : Nat, t ≤ n ∧ vi = .int .i64 (2 * (t : Int)) ∧ HexAt w wr v ((List.range t).map (pv (Sha.nums s))) ∧ ∀ i, i < t → good (Sha.nums s) i) (fun _ vi _ => s.size - (intOf vi).toNat)
    case atStart => exact ⟨0, by omega, rfl, H0, fun i hi => by omega⟩
    case round =>
      clear H0
      obtain ⟨t, ht, rfl, H, hok⟩ := hrel
      have HOK := hid' hok
      clear hok
      by_cases hlt : t < n
      · have hz : 2 * t + 1 < s.size := by have := HNN.out; omega
        have z1 := nums_at s (2 * t) (by omega)
        have z2 := nums_at s (2 * t + 1) (by omega)
        have g1 := Sha.nums_getD s (2 * t) (by omega)
        have g2 := Sha.nums_getD s (2 * t + 1) (by omega)
        have hpa : Sha.val ((Sha.nums s).getD (2 * t) 0) = pa (Sha.nums s) t := rfl
        have hpb : Sha.val ((Sha.nums s).getD (2 * t + 1) 0) = pb (Sha.nums s) t := rfl
        have v1 := val_range ((Sha.nums s).getD (2 * t) 0)
        have v2 := val_range ((Sha.nums s).getD (2 * t + 1) 0)
        rw [hpa] at v1
        rw [hpb] at v2
        have a1 : 2 * (t : Int) < (s.size : Int) := by omega
        have a2 : 2 * (t : Int) + 1 < (s.size : Int) := by omega
        have n1 : (2 * (t : Int)).toNat = 2 * t := by omega
        have n2 : (2 * (t : Int) + 1).toNat = 2 * t + 1 := by omega
        have hzs : (s.size : Int) ≤ 10000000000000 := by omega
        have t0 : (t : Int) < (n : Int) := by omega
        generalize (Sha.nums s).getD (2 * t) 0 = x at *
        generalize (Sha.nums s).getD (2 * t + 1) 0 = y at *
        have g1' := g1.symm
        have g2' := g2.symm
        clear g1 g2
        have HA := hid' hpa
        have HB := hid' hpb
        clear hpa hpb
        obtain ⟨x0, x1⟩ := z1
        obtain ⟨y0, y1⟩ := z2
        go_wp2_with fail
        refine (digit_any x wr x0 x1).mono ?_
        rintro e w' ⟨rfl, rfl⟩
        rw [HA.out]
        go_wp2_with fail
        refine (digit_any y wr y0 y1).mono ?_
        rintro e w' ⟨rfl, rfl⟩
        rw [HB.out]
        have hpv : pv (Sha.nums s) t = 16 * pa (Sha.nums s) t + pb (Sha.nums s) t := rfl
        have hgd : good (Sha.nums s) t ↔ (0 ≤ pa (Sha.nums s) t ∧ 0 ≤ pb (Sha.nums s) t) := Iff.rfl
        have HPV := hid' hpv
        have HGD := hid' hgd
        clear hpv hgd HA HB g1' g2' n1 n2
        generalize pa (Sha.nums s) t = p at *
        generalize pb (Sha.nums s) t = q at *
        by_cases hp : p < 0
        · have hb := unhexs_bad t (Sha.nums s) (by have := HLL.out; omega) (fun g => by have := (HGD.out.1 g).1; omega)
          have HB := hid' hb
          clear hb
          go_wp2_with fail
          go_ret2
          exact ⟨by rw [HB.out]; rfl, H.bel⟩
        · by_cases hq : q < 0
          · have hb := unhexs_bad t (Sha.nums s) (by have := HLL.out; omega) (fun g => by have := (HGD.out.1 g).2; omega)
            have HB := hid' hb
            clear hb
            go_wp2_with fail
            go_ret2
            exact ⟨by rw [HB.out]; rfl, H.bel⟩
          · have p0 : 0 ≤ p := by omega
            have q0 : 0 ≤ q := by omega
            have p1 : p ≤ 15 := by omega
            have q1 : q ≤ 15 := by omega
            have HO := hid' H
            clear H
            go_wp2_with (first
              | (refine append_one rfl (.tmp 37) (.tmp 43) rfl w.heap.size _ _ rfl HO.out.own (16 * p + q) rfl (by rw [List.length_map, List.length_range]; omega) HO.out.bel.size (fun v2 w2 h1 h2 h3 => ?_); clear h3; refine halt' ?_)
              | fail)
            have H2 : HexAt w w2 v2 ((List.range (t + 1)).map (pv (Sha.nums s))) := by
              rw [range_succ_pv, HPV.out]
              exact ⟨HO.out.bel.trans h2, h1⟩
            have ok2 : ∀ i, i < t + 1 → good (Sha.nums s) i := fun i hi => by
              by_cases e : i = t
              · subst e; exact HGD.out.2 ⟨p0, q0⟩
              · exact HOK.out i (by omega)
            have OK2 := hid' ok2
            clear h1 h2 ok2 HO
            refine hid' ?_
            go_wp2_with fail
            go_roundw
            case rel => exact ⟨t + 1, by omega, by go_num, H2, OK2.out⟩
            case measure => simp [intOf]; omega
      · obtain rfl : t = n := by omega
        have hall := unhexs_all t (Sha.nums s) HLL.out HOK.out
        have hcv := H.own.conv
        have HA := hid' hall
        have hge : ¬ 2 * (t : Int) < (s.size : Int) := by have := HNN.out; omega
        clear hall
        go_wp2_with fail
        go_ret2
        exact ⟨by rw [HA.out]; rfl, H.bel⟩
end Go.Proofs.YthhmedpafjdocaaDoor
