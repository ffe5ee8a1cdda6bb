/- Proved: lemmas and contracts of the functions that the law reaches, part 23 of 23: OptRef1, OptRef4, OptRef5, OptSame, OptLaws, OptLess. Conditions: as each states. -/
import Derived.Laws.OwnMore
import Derived.Test.YtkhileablgllcaaGreatDoorOln6
import Derived.Test.YtkhileablgllcaaGreatDoorOln11
import Derived.Test.YtkhileablgllcaaGreatDoorOln18
import Derived.Test.YtkhileablgllcaaGreatDoorOln19
import Derived.Test.YtkhileablgllcaaGreatDoorOln22
namespace Go.Proofs.YtkhileablgllcaaGreatDoor
open Go.RowKit
set_option linter.unusedVariables false
set_option linter.unusedSimpArgs false
set_option maxRecDepth 100000
theorem Co.sizes_take {ks : List Co.T} : ∀ {i : Nat} {k : Co.T}, ks[i]? = some k → Co.sizes (ks.take (i + 1)) = Co.sizes (ks.take i) + k.size := by
  induction ks with
  | nil => intro i k h; cases h
  | cons a r ih =>
    intro i k h
    cases i with
    | zero =>
      obtain rfl : a = k := by simpa using h
      simp [Co.sizes]
    | succ i =>
      have := ih (i := i) (k := k) (by simpa using h)
      rw [List.take_succ_cons, List.take_succ_cons, Co.sizes, Co.sizes, this]
      omega
theorem Co.sizes_take_le (ks : List Co.T) (i : Nat) : Co.sizes (ks.take i) ≤ Co.sizes ks := by
  induction ks generalizing i with
  | nil => simp
  | cons a r ih =>
    cases i with
    | zero => simp [Co.sizes]
    | succ i => rw [List.take_succ_cons, Co.sizes, Co.sizes]; have := ih i; omega
theorem drop_one {α : Type} {l : List α} {i : Nat} {k : α} (h : l[i]? = some k) : l.drop i = k :: l.drop (i + 1) := by
  obtain ⟨hi, rfl⟩ := List.getElem?_eq_some_iff.1 h
  exact (List.drop_eq_getElem_cons hi)
theorem any_true_of {α : Type} {l : List α} {k : α} {f : α → Bool} (h : k ∈ l) (hf : f k = true) : l.any f = true := List.any_eq_true.2 ⟨k, h, hf⟩
theorem any_take_succ {α : Type} {l : List α} {i : Nat} {k : α} (f : α → Bool) (h : l[i]? = some k) : (l.take (i + 1)).any f = ((l.take i).any f || f k) := by
  rw [take_one h, List.any_append]
  simp
theorem max_i64 {a b : Int} (ha : I64 a) (hb : I64 b) : I64 (max a b) := by
  unfold I64 at *
  omega
set_option maxHeartbeats 4000000 in
theorem refSize_any (t : Co.T) : ∀ (ok : Nat → Prop) (v : Value) (w : World), CoreIn ok w t v → t.size ≤ 2000000 → Calls Tryz.prog 7 #[v] w (Gives (.int .i64 (t.size : Int)) w) := by
  induction t using Co.T.ind with | h op n s ks ih => ?_
  intro ok v w hv hsz
  obtain ⟨q, c, rfl, hc, ho, hn, hs, hk⟩ := hv.open
  simp only [Co.T.op, Co.T.n, Co.T.s, Co.T.ks] at hk ⊢
  have HIH := hid' ih
  have HK := hid' hk
  have HN64 := hid' hn
  have HZS := hid' (show Co.sizes ks ≤ 2000000 by rw [Co.T.size] at hsz; omega)
  have HZ := hid' (show ks.length ≤ 2000000 by rw [Co.T.size] at hsz; have := Co.sizes_len ks; omega)
  have HSZ := hid' (fun k (h : k ∈ ks) => show k.size ≤ 2000000 by have := Co.sizes_mem h; rw [Co.T.size] at hsz; omega)
  have HB := hid' ((Below.refl w.heap.size w).alloc (Nat.le_refl _) (.cells #[.int .i64 op, .int .i64 n, .string s, .slice q ks.length c] 24))
  have HC := hid' (heap_alloc_new w (.cells #[.int .i64 op, .int .i64 n, .string s, .slice q ks.length c] 24))
  obtain ⟨R, hR⟩ : ∃ R, Hid (((Co.T.mk op n s ks).size : Int) = R) := ⟨_, hid' rfl⟩
  rw [hR.out]
  have HE := hid' (show R = 1 + (Co.sizes ks : Int) by rw [← hR.out, Co.T.size]; omega)
  clear ih hk hc ho hn hs hsz hv
  go_enter Tryz.func7, Tryz.ntmps7
  go_upto_region 1 with (fail)
  generalize World.alloc _ _ = w1 at *
  obtain ⟨c0, c1, c2, c3⟩ := heap_cells4 HC.out
  go_wp2_with fail
  go_loopw [3, 4] (fun mv iv wr => ∃ (i : Nat) (m : Int), iv = .int .i64 (i : Int) ∧ mv = .int .i64 m ∧ i ≤ ks.length ∧ Hid (Below w1.heap.size w1 wr ∧ m = 1 + (Co.sizes (ks.take i) : Int))) (fun _ iv _ => ks.length - (intOf iv).toNat)
  case atStart => exact ⟨0, 1, rfl, rfl, Nat.zero_le _, hid' ⟨Below.refl _ _, by simp [Co.sizes]⟩⟩
  case round =>
    obtain ⟨i, m, rfl, rfl, hi, HJ⟩ := hrel
    have hc1 := (HJ.out.1.block _ (lt_of_block HC.out)).trans HC.out
    obtain ⟨d0, d1, d2, d3⟩ := heap_cells4 hc1
    have HB1 := hid' (HB.out.trans (HJ.out.1.mono HB.out.size))
    clear hc1
    by_cases hik : i < ks.length
    · obtain ⟨k, hkk⟩ : ∃ k, ks[i]? = some k := ⟨_, List.getElem?_eq_getElem hik⟩
      obtain ⟨vk, hrow, hvk⟩ := HK.out i k hkk
      obtain ⟨b, off, x0, y0, z0, u0, e, hlb, hve, r0, r1, r2, r3⟩ := hrow.keep (fun b h hl => ⟨h, HB1.out.block b hl⟩)
      subst e
      have HKV := hid' hvk
      obtain ⟨pk, ck, rfl, -, -, -, -, -⟩ := hvk.open
      obtain ⟨rfl, rfl, rfl, rfl⟩ : .int .i64 k.op = x0 ∧ .int .i64 k.n = y0 ∧ .string k.s = z0 ∧ .slice pk k.ks.length ck = u0 := by simpa using hve
      have g0 : decide ((i : Int) < (ks.length : Int)) = true := by simp; omega
      have j1 : (0 : Int) ≤ (i : Int) := by omega
      have j2 : (i : Int) < (ks.length : Int) := by omega
      have hiw : IntKind.i64.wrap ((i : Int) + 1) = (i : Int) + 1 := IntWalk.i64_in _ (by have := HZ.out; omega)
      have HKK := hid' hkk
      have HM := hid' (show m + (k.size : Int) = 1 + (Co.sizes (ks.take (i + 1)) : Int) by rw [Co.sizes_take hkk, HJ.out.2]; omega)
      have hmw : IntKind.i64.wrap (m + (k.size : Int)) = m + (k.size : Int) := IntWalk.i64_in _ (by
        have h1 := HM.out
        have h2 := Co.sizes_take_le ks (i + 1)
        have h3 := HZS.out
        omega)
      clear hve hkk hrow hvk
      go_wp2_with fail
      refine (HIH.out k (List.mem_of_getElem? HKK.out) ok _ wr (HKV.out.under HB1.out) (HSZ.out k (List.mem_of_getElem? HKK.out))).mono ?_
      rintro e w5 ⟨rfl, b5⟩
      have HJ5 := hid' (HJ.out.1.trans (b5.mono HJ.out.1.size))
      clear b5 r0 r1 r2 r3 d0 d1 d2 d3
      have HNX := hid' (show Below w1.heap.size w1 w5 ∧ m + (k.size : Int) = 1 + (Co.sizes (ks.take (i + 1)) : Int) from ⟨HJ5.out, HM.out⟩)
      go_wp2_with fail
      go_roundw
      case rel => exact ⟨i + 1, m + (k.size : Int), by go_num, rfl, by omega, HNX⟩
      case measure => simp only [intOf]; omega
    · obtain rfl : i = ks.length := by omega
      have g0 : decide (ks.length < ks.length) = false := by simp
      have HY := hid' (show R = m by rw [HE.out, HJ.out.2, List.take_length])
      clear hik
      go_wp2_with fail
      go_ret
      exact ⟨by rw [HY.out]; rfl, HB1.out⟩
set_option maxHeartbeats 4000000 in
theorem refLeft_any (t : Co.T) : ∀ (m d : Int) (ok : Nat → Prop) (v : Value) (w : World), CoreIn ok w t v → t.size ≤ 2000000 → 0 ≤ m → m ≤ 2000 → 0 ≤ d → d ≤ 201 → Calls Tryz.prog 49 #[v, .int .i64 m, .int .i64 d] w (Gives (.int .i64 (t.left m d)) w) := by
  induction t using Co.T.ind with | h op n s ks ih => ?_
  intro m d ok v w hv hsz hm0 hm1 hd0 hd1
  obtain ⟨q, c, rfl, hc, ho, hn, hs, hk⟩ := hv.open
  simp only [Co.T.op, Co.T.n, Co.T.s, Co.T.ks] at hk ⊢
  have HIH := hid' ih
  have HK := hid' hk
  have HN64 := hid' hn
  have HZS := hid' (show Co.sizes ks ≤ 2000000 by rw [Co.T.size] at hsz; omega)
  have HZ := hid' (show ks.length ≤ 2000000 by rw [Co.T.size] at hsz; have := Co.sizes_len ks; omega)
  have HSZ := hid' (fun k (h : k ∈ ks) => show k.size ≤ 2000000 by have := Co.sizes_mem h; rw [Co.T.size] at hsz; omega)
  have HB := hid' ((Below.refl w.heap.size w).alloc (Nat.le_refl _) (.cells #[.int .i64 op, .int .i64 n, .string s, .slice q ks.length c] 24))
  have HC := hid' (heap_alloc_new w (.cells #[.int .i64 op, .int .i64 n, .string s, .slice q ks.length c] 24))
  obtain ⟨R, hR⟩ : ∃ R, Hid ((Co.T.mk op n s ks).left m d = R) := ⟨_, hid' rfl⟩
  rw [hR.out]
  have HE := hid' (show R = if 200 < d then -1 else Co.lefts ks (m - 1) (d + 1) by rw [← hR.out, Co.T.left])
  have hmw : IntKind.i64.wrap (m - 1) = m - 1 := IntWalk.i64_in _ (by omega)
  have hdw : IntKind.i64.wrap (d + 1) = d + 1 := IntWalk.i64_in _ (by omega)
  have HD := hid' hd0
  have HM1 := hid' (show -1 ≤ m - 1 ∧ m - 1 ≤ 2000 by omega)
  clear ih hk hc ho hn hs hsz hv hm0 hm1 hd0 hd1
  go_enter Tryz.func49, Tryz.ntmps49
  go_upto_region 1 with (fail)
  generalize World.alloc _ _ = w1 at *
  obtain ⟨c0, c1, c2, c3⟩ := heap_cells4 HC.out
  by_cases h200 : 200 < d
  · have HN := hid' (show R = -1 by rw [HE.out, if_pos h200])
    have g0 : decide (200 < d) = true := decide_eq_true h200
    clear h200
    go_wp2_with fail
    go_ret
    exact ⟨by rw [HN.out]; rfl, HB.out⟩
  · have HE2 := hid' (show R = Co.lefts ks (m - 1) (d + 1) by rw [HE.out, if_neg h200])
    have g0 : decide (200 < d) = false := decide_eq_false h200
    have HD2 := hid' (show 0 ≤ d + 1 ∧ d + 1 ≤ 201 by have := HD.out; omega)
    clear h200
    go_wp2_with fail
    clear g0
    go_loopw [1, 7] (fun mv iv wr => ∃ (i : Nat) (x : Int), iv = .int .i64 (i : Int) ∧ mv = .int .i64 x ∧ i ≤ ks.length ∧ Hid (Below w1.heap.size w1 wr ∧ R = Co.lefts (ks.drop i) x (d + 1) ∧ -1 ≤ x ∧ x ≤ 2000)) (fun _ iv _ => ks.length - (intOf iv).toNat)
    case atStart => exact ⟨0, m - 1, rfl, rfl, Nat.zero_le _, hid' ⟨Below.refl _ _, HE2.out, HM1.out⟩⟩
    case round =>
      obtain ⟨i, x, rfl, rfl, hi, HJ⟩ := hrel
      have hc1 := (HJ.out.1.block _ (lt_of_block HC.out)).trans HC.out
      obtain ⟨d0, d1, d2, d3⟩ := heap_cells4 hc1
      have HB1 := hid' (HB.out.trans (HJ.out.1.mono HB.out.size))
      clear hc1
      by_cases hik : i < ks.length
      · obtain ⟨k, hkk⟩ : ∃ k, ks[i]? = some k := ⟨_, List.getElem?_eq_getElem hik⟩
        obtain ⟨vk, hrow, hvk⟩ := HK.out i k hkk
        obtain ⟨b, off, x0, y0, z0, u0, e, hlb, hve, r0, r1, r2, r3⟩ := hrow.keep (fun b h hl => ⟨h, HB1.out.block b hl⟩)
        subst e
        have HKV := hid' hvk
        obtain ⟨pk, ck, rfl, -, -, -, -, -⟩ := hvk.open
        obtain ⟨rfl, rfl, rfl, rfl⟩ : .int .i64 k.op = x0 ∧ .int .i64 k.n = y0 ∧ .string k.s = z0 ∧ .slice pk k.ks.length ck = u0 := by simpa using hve
        have g0 : decide ((i : Int) < (ks.length : Int)) = true := by simp; omega
        have j1 : (0 : Int) ≤ (i : Int) := by omega
        have j2 : (i : Int) < (ks.length : Int) := by omega
        have hiw : IntKind.i64.wrap ((i : Int) + 1) = (i : Int) + 1 := IntWalk.i64_in _ (by have := HZ.out; omega)
        have HKK := hid' hkk
        clear hve hrow hvk
        by_cases hx : 0 ≤ x
        · have g1 : decide (0 ≤ x) = true := decide_eq_true hx
          have HNE := hid' (show R = Co.lefts (ks.drop (i + 1)) (k.left x (d + 1)) (d + 1) by rw [HJ.out.2.1, drop_one hkk, Co.lefts, if_pos hx])
          have HSP := hid' (show -1 ≤ k.left x (d + 1) ∧ k.left x (d + 1) ≤ 2000 by
            have h1 := (Co.left_spec k x (d + 1) hx).1
            have h2 := HJ.out.2.2.2
            omega)
          have HX := hid' hx
          clear hx hkk
          go_wp2_with fail
          refine (HIH.out k (List.mem_of_getElem? HKK.out) x (d + 1) ok _ wr (HKV.out.under HB1.out) (HSZ.out k (List.mem_of_getElem? HKK.out)) HX.out HJ.out.2.2.2 HD2.out.1 HD2.out.2).mono ?_
          rintro e w5 ⟨rfl, b5⟩
          have HJ5 := hid' (HJ.out.1.trans (b5.mono HJ.out.1.size))
          clear b5 r0 r1 r2 r3 d0 d1 d2 d3
          have HNX := hid' (show Below w1.heap.size w1 w5 ∧ R = Co.lefts (ks.drop (i + 1)) (k.left x (d + 1)) (d + 1) ∧ -1 ≤ k.left x (d + 1) ∧ k.left x (d + 1) ≤ 2000 from ⟨HJ5.out, HNE.out, HSP.out⟩)
          go_wp2_with fail
          go_roundw
          case rel => exact ⟨i + 1, _, by go_num, rfl, by omega, HNX⟩
          case measure => simp only [intOf]; omega
        · have g1 : decide (0 ≤ x) = false := decide_eq_false hx
          have HY := hid' (show R = x by rw [HJ.out.2.1, Co.lefts_neg _ (by omega)])
          clear hx hkk r0 r1 r2 r3
          go_wp2_with fail
          go_ret
          exact ⟨by rw [HY.out]; rfl, HB1.out⟩
      · obtain rfl : i = ks.length := by omega
        have g0 : decide (ks.length < ks.length) = false := by simp
        have HY := hid' (show R = x by
          rw [HJ.out.2.1, List.drop_eq_nil_of_le (Nat.le_refl _), Co.lefts])
        clear hik
        go_wp2_with fail
        go_ret
        exact ⟨by rw [HY.out]; rfl, HB1.out⟩
theorem refSmall_any (t : Co.T) (ok : Nat → Prop) (v : Value) (w : World) (hv : CoreIn ok w t v) (hsz : t.size ≤ 2000000) : Calls Tryz.prog 26 #[v] w (Gives (.bool (Co.small t)) w) := by
  obtain ⟨op, n, s, q, ln, c, rfl, hop, hn, hs, hln⟩ := open_term hv
  have HV := hid' hv
  have HSZ := hid' hsz
  have HB := hid' ((Below.refl w.heap.size w).alloc (Nat.le_refl _) (.cells #[.int .i64 op, .int .i64 n, .string s, .slice q ln c] 24))
  have HC := hid' (heap_alloc_new w (.cells #[.int .i64 op, .int .i64 n, .string s, .slice q ln c] 24))
  rw [← Co.left_small t]
  clear hop hn hs hln hv hsz
  go_enter Tryz.func26, Tryz.ntmps26
  go_upto_region 1 with (fail)
  generalize World.alloc _ _ = w1 at *
  obtain ⟨c0, c1, c2, c3⟩ := heap_cells4 HC.out
  go_wp2_with fail
  refine (refLeft_any t 2000 1 ok _ w1 (HV.out.under HB.out) HSZ.out (by decide) (by decide) (by decide) (by decide)).mono ?_
  rintro e w2 ⟨rfl, b2⟩
  have HB2 := hid' (HB.out.trans (b2.mono HB.out.size))
  clear b2
  go_wp2_with fail
  go_ret
  exact ⟨rfl, HB2.out⟩
set_option maxHeartbeats 4000000 in
theorem refAhead_any (t : Co.T) : ∀ (ok : Nat → Prop) (v : Value) (w : World), CoreIn ok w t v → t.size ≤ 2000000 → Calls Tryz.prog 13 #[v] w (Gives (.bool t.ahead) w) := by
  induction t using Co.T.ind with | h op n s ks ih => ?_
  intro ok v w hv hsz
  obtain ⟨q, c, rfl, hc, ho, hn, hs, hk⟩ := hv.open
  simp only [Co.T.op, Co.T.n, Co.T.s, Co.T.ks] at hk ⊢
  have HIH := hid' ih
  have HK := hid' hk
  have HN64 := hid' hn
  have HZS := hid' (show Co.sizes ks ≤ 2000000 by rw [Co.T.size] at hsz; omega)
  have HZ := hid' (show ks.length ≤ 2000000 by rw [Co.T.size] at hsz; have := Co.sizes_len ks; omega)
  have HSZ := hid' (fun k (h : k ∈ ks) => show k.size ≤ 2000000 by have := Co.sizes_mem h; rw [Co.T.size] at hsz; omega)
  have HB := hid' ((Below.refl w.heap.size w).alloc (Nat.le_refl _) (.cells #[.int .i64 op, .int .i64 n, .string s, .slice q ks.length c] 24))
  have HC := hid' (heap_alloc_new w (.cells #[.int .i64 op, .int .i64 n, .string s, .slice q ks.length c] 24))
  obtain ⟨R, hR⟩ : ∃ R, Hid ((Co.T.mk op n s ks).ahead = R) := ⟨_, hid' rfl⟩
  rw [hR.out]
  have HE := hid' (show R = (((op == 4 || op == 5) && decide (n < 0)) || ks.any Co.T.ahead) by rw [← hR.out, Co.ahead_eq])
  clear ih hk hc ho hn hs hsz hv
  go_enter Tryz.func13, Tryz.ntmps13
  go_upto_region 1 with (fail)
  generalize World.alloc _ _ = w1 at *
  obtain ⟨c0, c1, c2, c3⟩ := heap_cells4 HC.out
  by_cases hn0 : n < 0
  · have gn : decide (n < 0) = true := decide_eq_true hn0
    clear hn0
    by_cases h45 : op = 4 ∨ op = 5
    · have HN := hid' (show R = true by
        rw [HE.out, gn]
        rcases h45 with rfl | rfl <;> simp)
      rcases h45 with rfl | rfl
      all_goals
        go_wp2_with fail
        go_ret
        exact ⟨by rw [HN.out]; rfl, HB.out⟩
    · simp only [not_or] at h45
      have HROOT := hid' (show ((op == 4 || op == 5) && decide (n < 0)) = false by simp [h45.1, h45.2])
      have g4 : (op == 4) = false := by simpa using h45.1
      have g5 : (op == 5) = false := by simpa using h45.2
      clear h45
      go_wp2_with fail
      go_loopw [3] (fun iv wr => ∃ (i : Nat), iv = .int .i64 (i : Int) ∧ i ≤ ks.length ∧ Hid (Below w1.heap.size w1 wr ∧ (ks.take i).any Co.T.ahead = false)) (fun iv _ => ks.length - (intOf iv).toNat)
      case atStart => exact ⟨0, rfl, Nat.zero_le _, hid' ⟨Below.refl _ _, rfl⟩⟩
      case round =>
        obtain ⟨i, rfl, hi, HJ⟩ := hrel
        have hc1 := (HJ.out.1.block _ (lt_of_block HC.out)).trans HC.out
        obtain ⟨d0, d1, d2, d3⟩ := heap_cells4 hc1
        have HB1 := hid' (HB.out.trans (HJ.out.1.mono HB.out.size))
        clear hc1
        by_cases hik : i < ks.length
        · obtain ⟨k, hkk⟩ : ∃ k, ks[i]? = some k := ⟨_, List.getElem?_eq_getElem hik⟩
          obtain ⟨vk, hrow, hvk⟩ := HK.out i k hkk
          obtain ⟨b, off, x0, y0, z0, u0, e, hlb, hve, r0, r1, r2, r3⟩ := hrow.keep (fun b h hl => ⟨h, HB1.out.block b hl⟩)
          subst e
          have HKV := hid' hvk
          obtain ⟨pk, ck, rfl, -, -, -, -, -⟩ := hvk.open
          obtain ⟨rfl, rfl, rfl, rfl⟩ : .int .i64 k.op = x0 ∧ .int .i64 k.n = y0 ∧ .string k.s = z0 ∧ .slice pk k.ks.length ck = u0 := by simpa using hve
          have g0 : decide ((i : Int) < (ks.length : Int)) = true := by simp; omega
          have j1 : (0 : Int) ≤ (i : Int) := by omega
          have j2 : (i : Int) < (ks.length : Int) := by omega
          have hiw : IntKind.i64.wrap ((i : Int) + 1) = (i : Int) + 1 := IntWalk.i64_in _ (by have := HZ.out; omega)
          have HKK := hid' hkk
          clear hve hkk hrow hvk
          go_wp2_with fail
          refine (HIH.out k (List.mem_of_getElem? HKK.out) ok _ wr (HKV.out.under HB1.out) (HSZ.out k (List.mem_of_getElem? HKK.out))).mono ?_
          rintro e w5 ⟨rfl, b5⟩
          have HW5 := hid' (HB1.out.trans (b5.mono HB1.out.size))
          have HJ5 := hid' (HJ.out.1.trans (b5.mono HJ.out.1.size))
          clear b5 r0 r1 r2 r3 d0 d1 d2 d3
          obtain ⟨g, hg⟩ : ∃ g, Hid (k.ahead = g) := ⟨_, hid' rfl⟩
          rw [hg.out]
          cases g with
          | false =>
            have HNX := hid' (show Below w1.heap.size w1 w5 ∧ (ks.take (i + 1)).any Co.T.ahead = false from ⟨HJ5.out, by rw [any_take_succ _ HKK.out, HJ.out.2, hg.out]; rfl⟩)
            go_wp2_with fail
            go_roundw
            case rel => exact ⟨i + 1, by go_num, by omega, HNX⟩
            case measure => simp only [intOf]; omega
          | true =>
            have HN := hid' (show R = true by rw [HE.out, any_true_of (List.mem_of_getElem? HKK.out) hg.out, Bool.or_true])
            go_wp2_with fail
            go_ret
            exact ⟨by rw [HN.out]; rfl, HW5.out⟩
        · obtain rfl : i = ks.length := by omega
          have g0 : decide (ks.length < ks.length) = false := by simp
          have HY := hid' (show R = false by
            rw [HE.out]
            have h2 := HJ.out.2
            rw [List.take_length] at h2
            rw [h2, HROOT.out]
            rfl)
          clear hik
          go_wp2_with fail
          go_ret
          exact ⟨by rw [HY.out]; rfl, HB1.out⟩
  · have gn : decide (n < 0) = false := decide_eq_false hn0
    have HROOT := hid' (show ((op == 4 || op == 5) && decide (n < 0)) = false by rw [gn, Bool.and_false])
    clear hn0
    rcases (by omega : op = 4 ∨ op = 5 ∨ (op ≠ 4 ∧ op ≠ 5)) with rfl | rfl | ⟨h4, h5⟩
    rotate_right
    · have g4 : (op == 4) = false := by simpa using h4
      have g5 : (op == 5) = false := by simpa using h5
      clear h4 h5
      go_wp2_with fail
      go_loopw [3] (fun iv wr => ∃ (i : Nat), iv = .int .i64 (i : Int) ∧ i ≤ ks.length ∧ Hid (Below w1.heap.size w1 wr ∧ (ks.take i).any Co.T.ahead = false)) (fun iv _ => ks.length - (intOf iv).toNat)
      case atStart => exact ⟨0, rfl, Nat.zero_le _, hid' ⟨Below.refl _ _, rfl⟩⟩
      case round =>
        obtain ⟨i, rfl, hi, HJ⟩ := hrel
        have hc1 := (HJ.out.1.block _ (lt_of_block HC.out)).trans HC.out
        obtain ⟨d0, d1, d2, d3⟩ := heap_cells4 hc1
        have HB1 := hid' (HB.out.trans (HJ.out.1.mono HB.out.size))
        clear hc1
        by_cases hik : i < ks.length
        · obtain ⟨k, hkk⟩ : ∃ k, ks[i]? = some k := ⟨_, List.getElem?_eq_getElem hik⟩
          obtain ⟨vk, hrow, hvk⟩ := HK.out i k hkk
          obtain ⟨b, off, x0, y0, z0, u0, e, hlb, hve, r0, r1, r2, r3⟩ := hrow.keep (fun b h hl => ⟨h, HB1.out.block b hl⟩)
          subst e
          have HKV := hid' hvk
          obtain ⟨pk, ck, rfl, -, -, -, -, -⟩ := hvk.open
          obtain ⟨rfl, rfl, rfl, rfl⟩ : .int .i64 k.op = x0 ∧ .int .i64 k.n = y0 ∧ .string k.s = z0 ∧ .slice pk k.ks.length ck = u0 := by simpa using hve
          have g0 : decide ((i : Int) < (ks.length : Int)) = true := by simp; omega
          have j1 : (0 : Int) ≤ (i : Int) := by omega
          have j2 : (i : Int) < (ks.length : Int) := by omega
          have hiw : IntKind.i64.wrap ((i : Int) + 1) = (i : Int) + 1 := IntWalk.i64_in _ (by have := HZ.out; omega)
          have HKK := hid' hkk
          clear hve hkk hrow hvk
          go_wp2_with fail
          refine (HIH.out k (List.mem_of_getElem? HKK.out) ok _ wr (HKV.out.under HB1.out) (HSZ.out k (List.mem_of_getElem? HKK.out))).mono ?_
          rintro e w5 ⟨rfl, b5⟩
          have HW5 := hid' (HB1.out.trans (b5.mono HB1.out.size))
          have HJ5 := hid' (HJ.out.1.trans (b5.mono HJ.out.1.size))
          clear b5 r0 r1 r2 r3 d0 d1 d2 d3
          obtain ⟨g, hg⟩ : ∃ g, Hid (k.ahead = g) := ⟨_, hid' rfl⟩
          rw [hg.out]
          cases g with
          | false =>
            have HNX := hid' (show Below w1.heap.size w1 w5 ∧ (ks.take (i + 1)).any Co.T.ahead = false from ⟨HJ5.out, by rw [any_take_succ _ HKK.out, HJ.out.2, hg.out]; rfl⟩)
            go_wp2_with fail
            go_roundw
            case rel => exact ⟨i + 1, by go_num, by omega, HNX⟩
            case measure => simp only [intOf]; omega
          | true =>
            have HN := hid' (show R = true by rw [HE.out, any_true_of (List.mem_of_getElem? HKK.out) hg.out, Bool.or_true])
            go_wp2_with fail
            go_ret
            exact ⟨by rw [HN.out]; rfl, HW5.out⟩
        · obtain rfl : i = ks.length := by omega
          have g0 : decide (ks.length < ks.length) = false := by simp
          have HY := hid' (show R = false by
            rw [HE.out]
            have h2 := HJ.out.2
            rw [List.take_length] at h2
            rw [h2, HROOT.out]
            rfl)
          clear hik
          go_wp2_with fail
          go_ret
          exact ⟨by rw [HY.out]; rfl, HB1.out⟩
    all_goals
      go_wp2_with fail
      go_loopw [3] (fun iv wr => ∃ (i : Nat), iv = .int .i64 (i : Int) ∧ i ≤ ks.length ∧ Hid (Below w1.heap.size w1 wr ∧ (ks.take i).any Co.T.ahead = false)) (fun iv _ => ks.length - (intOf iv).toNat)
      case atStart => exact ⟨0, rfl, Nat.zero_le _, hid' ⟨Below.refl _ _, rfl⟩⟩
      case round =>
        obtain ⟨i, rfl, hi, HJ⟩ := hrel
        have hc1 := (HJ.out.1.block _ (lt_of_block HC.out)).trans HC.out
        obtain ⟨d0, d1, d2, d3⟩ := heap_cells4 hc1
        have HB1 := hid' (HB.out.trans (HJ.out.1.mono HB.out.size))
        clear hc1
        by_cases hik : i < ks.length
        · obtain ⟨k, hkk⟩ : ∃ k, ks[i]? = some k := ⟨_, List.getElem?_eq_getElem hik⟩
          obtain ⟨vk, hrow, hvk⟩ := HK.out i k hkk
          obtain ⟨b, off, x0, y0, z0, u0, e, hlb, hve, r0, r1, r2, r3⟩ := hrow.keep (fun b h hl => ⟨h, HB1.out.block b hl⟩)
          subst e
          have HKV := hid' hvk
          obtain ⟨pk, ck, rfl, -, -, -, -, -⟩ := hvk.open
          obtain ⟨rfl, rfl, rfl, rfl⟩ : .int .i64 k.op = x0 ∧ .int .i64 k.n = y0 ∧ .string k.s = z0 ∧ .slice pk k.ks.length ck = u0 := by simpa using hve
          have g0 : decide ((i : Int) < (ks.length : Int)) = true := by simp; omega
          have j1 : (0 : Int) ≤ (i : Int) := by omega
          have j2 : (i : Int) < (ks.length : Int) := by omega
          have hiw : IntKind.i64.wrap ((i : Int) + 1) = (i : Int) + 1 := IntWalk.i64_in _ (by have := HZ.out; omega)
          have HKK := hid' hkk
          clear hve hkk hrow hvk
          go_wp2_with fail
          refine (HIH.out k (List.mem_of_getElem? HKK.out) ok _ wr (HKV.out.under HB1.out) (HSZ.out k (List.mem_of_getElem? HKK.out))).mono ?_
          rintro e w5 ⟨rfl, b5⟩
          have HW5 := hid' (HB1.out.trans (b5.mono HB1.out.size))
          have HJ5 := hid' (HJ.out.1.trans (b5.mono HJ.out.1.size))
          clear b5 r0 r1 r2 r3 d0 d1 d2 d3
          obtain ⟨g, hg⟩ : ∃ g, Hid (k.ahead = g) := ⟨_, hid' rfl⟩
          rw [hg.out]
          cases g with
          | false =>
            have HNX := hid' (show Below w1.heap.size w1 w5 ∧ (ks.take (i + 1)).any Co.T.ahead = false from ⟨HJ5.out, by rw [any_take_succ _ HKK.out, HJ.out.2, hg.out]; rfl⟩)
            go_wp2_with fail
            go_roundw
            case rel => exact ⟨i + 1, by go_num, by omega, HNX⟩
            case measure => simp only [intOf]; omega
          | true =>
            have HN := hid' (show R = true by rw [HE.out, any_true_of (List.mem_of_getElem? HKK.out) hg.out, Bool.or_true])
            go_wp2_with fail
            go_ret
            exact ⟨by rw [HN.out]; rfl, HW5.out⟩
        · obtain rfl : i = ks.length := by omega
          have g0 : decide (ks.length < ks.length) = false := by simp
          have HY := hid' (show R = false by
            rw [HE.out]
            have h2 := HJ.out.2
            rw [List.take_length] at h2
            rw [h2, HROOT.out]
            rfl)
          clear hik
          go_wp2_with fail
          go_ret
          exact ⟨by rw [HY.out]; rfl, HB1.out⟩
theorem Co.hor_i64 (t : Co.T) : ∀ (ok : Nat → Prop) (v : Value) (w : World), CoreIn ok w t v → I64 t.hor := by
  induction t using Co.T.ind with | h op n s ks ih => ?_
  intro ok v w hv
  obtain ⟨q, c, rfl, hc, ho, hn, hs, hk⟩ := hv.open
  have hl : ∀ (l : List Co.T), (∀ k ∈ l, I64 k.hor) → ∀ m, I64 m → I64 (Co.hors l m) := by
    intro l
    induction l with
    | nil => intro _ m hm; rw [Co.hors]; exact hm
    | cons a r ih2 => intro h m hm; rw [Co.hors]; exact ih2 (fun k hk => h k (List.mem_cons_of_mem _ hk)) _ (max_i64 hm (h a (List.mem_cons_self ..)))
  rw [Co.T.hor]
  refine hl ks (fun k hm => ?_) _ ?_
  · obtain ⟨i, hi⟩ := List.mem_iff_getElem?.1 hm
    obtain ⟨vk, -, hvk⟩ := hk i k hi
    exact ih k hm ok vk w hvk
  · unfold Co.nb
    split
    · exact hn
    · exact ⟨by decide, by decide⟩
set_option maxHeartbeats 4000000 in
theorem refHorizon_any (t : Co.T) : ∀ (ok : Nat → Prop) (v : Value) (w : World), CoreIn ok w t v → t.size ≤ 2000000 → Calls Tryz.prog 14 #[v] w (Gives (.int .i64 t.hor) w) := by
  induction t using Co.T.ind with | h op n s ks ih => ?_
  intro ok v w hv hsz
  obtain ⟨q, c, rfl, hc, ho, hn, hs, hk⟩ := hv.open
  simp only [Co.T.op, Co.T.n, Co.T.s, Co.T.ks] at hk ⊢
  have HIH := hid' ih
  have HK := hid' hk
  have HN64 := hid' hn
  have HZS := hid' (show Co.sizes ks ≤ 2000000 by rw [Co.T.size] at hsz; omega)
  have HZ := hid' (show ks.length ≤ 2000000 by rw [Co.T.size] at hsz; have := Co.sizes_len ks; omega)
  have HSZ := hid' (fun k (h : k ∈ ks) => show k.size ≤ 2000000 by have := Co.sizes_mem h; rw [Co.T.size] at hsz; omega)
  have HB := hid' ((Below.refl w.heap.size w).alloc (Nat.le_refl _) (.cells #[.int .i64 op, .int .i64 n, .string s, .slice q ks.length c] 24))
  have HC := hid' (heap_alloc_new w (.cells #[.int .i64 op, .int .i64 n, .string s, .slice q ks.length c] 24))
  obtain ⟨R, hR⟩ : ∃ R, Hid ((Co.T.mk op n s ks).hor = R) := ⟨_, hid' rfl⟩
  rw [hR.out]
  have HE := hid' (show R = Co.hors ks (Co.nb op n) by rw [← hR.out, Co.T.hor])
  have hnw : IntKind.i64.wrap n = n := IntWalk.i64_in _ (by have h : I64 n := hn; unfold I64 at h; omega)
  clear ih hk hc ho hn hs hsz hv
  go_enter Tryz.func14, Tryz.ntmps14
  go_upto_region 1 with (fail)
  generalize World.alloc _ _ = w1 at *
  obtain ⟨c0, c1, c2, c3⟩ := heap_cells4 HC.out
  by_cases h3 : op = 29 ∨ op = 30 ∨ op = 31
  · have HS := hid' (show R = Co.hors (ks.drop 0) n by rw [HE.out, List.drop_zero, Co.nb, if_pos h3])
    rcases h3 with rfl | rfl | rfl
    all_goals
      go_wp2_with fail
      go_loopw [3, 4] (fun mv iv wr => ∃ (i : Nat) (x : Int), iv = .int .i64 (i : Int) ∧ mv = .int .i64 x ∧ i ≤ ks.length ∧ Hid (Below w1.heap.size w1 wr ∧ R = Co.hors (ks.drop i) x)) (fun _ iv _ => ks.length - (intOf iv).toNat)
      case atStart => exact ⟨0, _, rfl, rfl, Nat.zero_le _, hid' ⟨Below.refl _ _, HS.out⟩⟩
      case round =>
        obtain ⟨i, x, rfl, rfl, hi, HJ⟩ := hrel
        have hc1 := (HJ.out.1.block _ (lt_of_block HC.out)).trans HC.out
        obtain ⟨d0, d1, d2, d3⟩ := heap_cells4 hc1
        have HB1 := hid' (HB.out.trans (HJ.out.1.mono HB.out.size))
        clear hc1
        by_cases hik : i < ks.length
        · obtain ⟨k, hkk⟩ : ∃ k, ks[i]? = some k := ⟨_, List.getElem?_eq_getElem hik⟩
          obtain ⟨vk, hrow, hvk⟩ := HK.out i k hkk
          obtain ⟨b, off, x0, y0, z0, u0, e, hlb, hve, r0, r1, r2, r3⟩ := hrow.keep (fun b h hl => ⟨h, HB1.out.block b hl⟩)
          subst e
          have HKV := hid' hvk
          obtain ⟨pk, ck, rfl, -, -, -, -, -⟩ := hvk.open
          obtain ⟨rfl, rfl, rfl, rfl⟩ : .int .i64 k.op = x0 ∧ .int .i64 k.n = y0 ∧ .string k.s = z0 ∧ .slice pk k.ks.length ck = u0 := by simpa using hve
          have g0 : decide ((i : Int) < (ks.length : Int)) = true := by simp; omega
          have j1 : (0 : Int) ≤ (i : Int) := by omega
          have j2 : (i : Int) < (ks.length : Int) := by omega
          have hiw : IntKind.i64.wrap ((i : Int) + 1) = (i : Int) + 1 := IntWalk.i64_in _ (by have := HZ.out; omega)
          have HKK := hid' hkk
          have HNE := hid' (show R = Co.hors (ks.drop (i + 1)) (max x k.hor) by rw [HJ.out.2, drop_one hkk, Co.hors])
          clear hve hkk hrow hvk
          go_wp2_with fail
          refine (HIH.out k (List.mem_of_getElem? HKK.out) ok _ wr (HKV.out.under HB1.out) (HSZ.out k (List.mem_of_getElem? HKK.out))).mono ?_
          rintro e w5 ⟨rfl, b5⟩
          have HJ5 := hid' (HJ.out.1.trans (b5.mono HJ.out.1.size))
          clear b5 r0 r1 r2 r3 d0 d1 d2 d3
          have HNX := hid' (show Below w1.heap.size w1 w5 ∧ R = Co.hors (ks.drop (i + 1)) (max x k.hor) from ⟨HJ5.out, HNE.out⟩)
          go_wp2_with fail
          go_roundw
          case rel => exact ⟨i + 1, max x k.hor, by go_num, rfl, by omega, HNX⟩
          case measure => simp only [intOf]; omega
        · obtain rfl : i = ks.length := by omega
          have g0 : decide (ks.length < ks.length) = false := by simp
          have HY := hid' (show R = x by
            rw [HJ.out.2, List.drop_eq_nil_of_le (Nat.le_refl _), Co.hors])
          clear hik
          go_wp2_with fail
          go_ret
          exact ⟨by rw [HY.out]; rfl, HB1.out⟩
  · have HS := hid' (show R = Co.hors (ks.drop 0) 0 by rw [HE.out, List.drop_zero, Co.nb, if_neg h3])
    simp only [not_or] at h3
    have g1 : (op == 29) = false := by simpa using h3.1
    have g2 : (op == 30) = false := by simpa using h3.2.1
    have g3 : (op == 31) = false := by simpa using h3.2.2
    clear h3
    go_wp2_with fail
    go_loopw [3, 4] (fun mv iv wr => ∃ (i : Nat) (x : Int), iv = .int .i64 (i : Int) ∧ mv = .int .i64 x ∧ i ≤ ks.length ∧ Hid (Below w1.heap.size w1 wr ∧ R = Co.hors (ks.drop i) x)) (fun _ iv _ => ks.length - (intOf iv).toNat)
    case atStart => exact ⟨0, _, rfl, rfl, Nat.zero_le _, hid' ⟨Below.refl _ _, HS.out⟩⟩
    case round =>
      obtain ⟨i, x, rfl, rfl, hi, HJ⟩ := hrel
      have hc1 := (HJ.out.1.block _ (lt_of_block HC.out)).trans HC.out
      obtain ⟨d0, d1, d2, d3⟩ := heap_cells4 hc1
      have HB1 := hid' (HB.out.trans (HJ.out.1.mono HB.out.size))
      clear hc1
      by_cases hik : i < ks.length
      · obtain ⟨k, hkk⟩ : ∃ k, ks[i]? = some k := ⟨_, List.getElem?_eq_getElem hik⟩
        obtain ⟨vk, hrow, hvk⟩ := HK.out i k hkk
        obtain ⟨b, off, x0, y0, z0, u0, e, hlb, hve, r0, r1, r2, r3⟩ := hrow.keep (fun b h hl => ⟨h, HB1.out.block b hl⟩)
        subst e
        have HKV := hid' hvk
        obtain ⟨pk, ck, rfl, -, -, -, -, -⟩ := hvk.open
        obtain ⟨rfl, rfl, rfl, rfl⟩ : .int .i64 k.op = x0 ∧ .int .i64 k.n = y0 ∧ .string k.s = z0 ∧ .slice pk k.ks.length ck = u0 := by simpa using hve
        have g0 : decide ((i : Int) < (ks.length : Int)) = true := by simp; omega
        have j1 : (0 : Int) ≤ (i : Int) := by omega
        have j2 : (i : Int) < (ks.length : Int) := by omega
        have hiw : IntKind.i64.wrap ((i : Int) + 1) = (i : Int) + 1 := IntWalk.i64_in _ (by have := HZ.out; omega)
        have HKK := hid' hkk
        have HNE := hid' (show R = Co.hors (ks.drop (i + 1)) (max x k.hor) by rw [HJ.out.2, drop_one hkk, Co.hors])
        clear hve hkk hrow hvk
        go_wp2_with fail
        refine (HIH.out k (List.mem_of_getElem? HKK.out) ok _ wr (HKV.out.under HB1.out) (HSZ.out k (List.mem_of_getElem? HKK.out))).mono ?_
        rintro e w5 ⟨rfl, b5⟩
        have HJ5 := hid' (HJ.out.1.trans (b5.mono HJ.out.1.size))
        clear b5 r0 r1 r2 r3 d0 d1 d2 d3
        have HNX := hid' (show Below w1.heap.size w1 w5 ∧ R = Co.hors (ks.drop (i + 1)) (max x k.hor) from ⟨HJ5.out, HNE.out⟩)
        go_wp2_with fail
        go_roundw
        case rel => exact ⟨i + 1, max x k.hor, by go_num, rfl, by omega, HNX⟩
        case measure => simp only [intOf]; omega
      · obtain rfl : i = ks.length := by omega
        have g0 : decide (ks.length < ks.length) = false := by simp
        have HY := hid' (show R = x by
          rw [HJ.out.2, List.drop_eq_nil_of_le (Nat.le_refl _), Co.hors])
        clear hik
        go_wp2_with fail
        go_ret
        exact ⟨by rw [HY.out]; rfl, HB1.out⟩
end Go.Proofs.YtkhileablgllcaaGreatDoor
namespace Go.Proofs.YtkhileablgllcaaGreatDoor
open Go.RowKit
open Rw
set_option linter.unusedVariables false
set_option linter.unusedSimpArgs false
set_option maxRecDepth 100000
/-- Numbers in a row of the call's own. -/
def IntRow (base : Nat) (w : World) (v : Value) (L : List Int) : Prop := w.ownsRow base 3 1 v L.length (L.map (Value.int .i64))
theorem info_int : (Tryz.prog.info? 3).map (fun i => (i.zero, i.size, i.bytes)) = some (some (.int .i64 0), 1, 8) := by kernel_rfl
theorem append_int {w : World} {ops : Array Oper} {rest : List Oper} {o : Oper} {a : Act} {Q : Exit → Act → World → Prop} (hgd : o.guard = none) (s x : Operand)
    (ho : o.op = .call { callee := .builtin .append, args := #[s, x], argTypes := #[62, 62] })
    (base : Nat) (v : Value) (L : List Int) (hs : a.eval s = v) (hown : IntRow base w v L) (y : Int) (hx : a.eval x = .slice (some ⟨w.heap.size, 0, none⟩) 1 1)
    (hbound : L.length + 1 ≤ 1000000) (hbase : base ≤ w.heap.size)
    (h : ∀ v' w', IntRow base w' v' (L ++ [y]) → w.grownBy w' v.ownBlock → wpList Tryz.prog ops Q rest (a.put o.dst v') w') :
    wpList Tryz.prog ops Q (o :: rest) a (w.alloc (.cells #[.int .i64 y] 3)) := by
  obtain ⟨i, hi, hz, hsz, hby⟩ := info_split info_int
  refine wpList_append_own _ hgd s x 62 ho base 3 i _ 1 8 Tryz.underlying62 hi hz hsz hby rfl (by decide) v L.length _ hs (World.ownsRow.alloc hown _) ⟨w.heap.size, 0, none⟩ 1 1 [.int .i64 y] hx rfl
    (fun j u hj => ?_) (fun u hu => ?_) (by unfold maxLen; omega) (by omega) (by simp; omega) (fun v' w' h1 h2 _ => h v' w' ?_ (grown_trans (grown_of_below ((Below.refl _ _).alloc (Nat.le_refl _) _) _) h2))
  · rw [add_gen, World.cell?_alloc_new, Nat.zero_add, ← hj]
    simp
  · simp only [List.mem_cons, List.not_mem_nil, or_false] at hu
    rcases hu with rfl
    rfl
  · show World.ownsRow w' base _ 1 v' (L ++ [y]).length ((L ++ [y]).map (Value.int .i64))
    rw [List.length_append, List.map_append]
    simpa using h1
theorem IntRow.nil (base : Nat) (W : World) : IntRow base W (.slice none 0 0) [] := ⟨by simp, .inl ⟨rfl, rfl⟩⟩
theorem IntRow.ints {base : Nat} {W : World} {v : Value} {L : List Int} (h : IntRow base W v L) : IntsAt W v L := by
  have h' := h
  obtain ⟨h0, ⟨rfl, hz⟩ | ⟨g, cap, cur, rfl, hrest⟩⟩ := h
  · obtain rfl : L = [] := List.eq_nil_of_length_eq_zero hz
    exact IntsAt.nil W
  · refine ⟨_, _, rfl, fun i x hi => ⟨g, 0, rfl, ?_⟩⟩
    rw [Nat.zero_add, World.ownsRow.cellAt h' i (by have := (List.getElem?_eq_some_iff.1 hi).1; omega), List.getElem?_map, hi]
    rfl
theorem IntRow.below {base : Nat} {W W' : World} {v : Value} {L : List Int} (h : IntRow base W v L) (hb : Below W.heap.size W W') : IntRow base W' v L := by
  obtain ⟨h1, h2⟩ := h
  exact ⟨h1, h2.imp id fun ⟨g, cap, cur, hv, hg, hh, r⟩ => ⟨g, cap, cur, hv, hg, (hb.block g (lt_of_block hh)).trans hh, r⟩⟩
/-- What the reference tells of a term's type. -/
def TypedPost (L : UInt8) (w : World) (e : Ending) (w' : World) : Prop := ∃ x : Int, e = .returned (.tuple #[.int .i64 x, .bool (L != 0)]) ∧ (L ≠ 0 → x = Co.code L) ∧ Below w.heap.size w w'
theorem below_own {base : Nat} {A W W' : World} {r : Option Nat} (h : Below base A W) (g : W.grownBy W' r) (hr : ∀ k, k < base → some k ≠ r) (hs : base ≤ W.heap.size) : Below base A W' :=
  h.trans ⟨g.os, g.tape, g.output, g.size, fun k hk => g.block k (Nat.lt_of_lt_of_le hk hs) (hr k hk)⟩
set_option maxHeartbeats 8000000 in
theorem refTyped_any (t : Co.T) : ∀ (d : Int) (ok : Nat → Prop) (v : Value) (w : World), CoreIn ok w t v → t.size ≤ 2000000 → 0 ≤ d → d + t.depth ≤ 201 → Calls Tryz.prog 27 #[v, .int .i64 d] w (TypedPost t.letter w) := by
  induction t using Co.T.ind with | h op n s ks ih => ?_
  intro d ok v w hv hsz hd0 hdt
  obtain ⟨q, c, rfl, hc, ho, hn, hs, hk⟩ := hv.open
  simp only [Co.T.op, Co.T.n, Co.T.s, Co.T.ks] at hk ⊢
  have HIH := hid' ih
  have HK := hid' hk
  have HSS := hid' (show s.size ≤ 9223372036854775807 from Nat.le_trans hs (by decide))
  have HSZ := hid' (fun k (h : k ∈ ks) => show k.size ≤ 2000000 by have := Co.sizes_mem h; rw [Co.T.size] at hsz; omega)
  have HDD := hid' (fun k (h : k ∈ ks) => show (d + 1) + k.depth ≤ 201 by have := Co.depths_mem h; rw [Co.T.depth] at hdt; omega)
  have HD := hid' (show 0 ≤ d ∧ d ≤ 200 by have := Co.depth_pos (.mk op n s ks); omega)
  have hdw : IntKind.i64.wrap (d + 1) = d + 1 := IntWalk.i64_in _ (by have := HD.out; omega)
  have g200 : decide (200 < d) = false := decide_eq_false (by have := HD.out; omega)
  have HB := hid' ((Below.refl w.heap.size w).alloc (Nat.le_refl _) (.cells #[.int .i64 op, .int .i64 n, .string s, .slice q ks.length c] 24))
  have HC := hid' (heap_alloc_new w (.cells #[.int .i64 op, .int .i64 n, .string s, .slice q ks.length c] 24))
  clear ih hk hc ho hn hs hsz hv hd0 hdt
  obtain ⟨L, hL⟩ : ∃ L, Hid ((Co.T.mk op n s ks).letter = L) := ⟨_, hid' rfl⟩
  rw [hL.out]
  go_enter Tryz.func27, Tryz.ntmps27
  go_upto_region 1 with (fail)
  generalize World.alloc _ _ = w1 at *
  obtain ⟨c0, c1, c2, c3⟩ := heap_cells4 HC.out
  go_wp2_with fail
  refine (refFields_any op n s _ _ _ w1 HSS.out).mono ?_
  rintro e w2 ⟨rfl, b2⟩
  have HB2 := hid' (HB.out.trans (b2.mono HB.out.size))
  have HC2 := hid' ((b2.block _ (lt_of_block HC.out)).trans HC.out)
  clear b2 c0 c1 c2 c3
  obtain ⟨c0, c1, c2, c3⟩ := heap_cells4 HC2.out
  cases hf : Co.fields op n s with
  | false =>
    have HN := hid' (show L = 0 by
      rw [← hL.out]
      by_cases h : (Co.T.mk op n s ks).letter = 0
      · exact h
      · rw [Co.fields_of h] at hf; cases hf)
    go_wp2_with fail
    refine bodyPost_ret (results_tmp2 rfl _ _ _) rfl ?_
    exact ⟨0, by rw [HN.out]; rfl, fun h => absurd HN.out h, HB2.out⟩
  | true =>
    have HF := hid' hf
    clear hf
    by_cases h3 : 3 < ks.length
    · have HN := hid' (show L = 0 by
        rw [← hL.out]
        by_cases h : (Co.T.mk op n s ks).letter = 0
        · exact h
        · have := Co.kids_few h; omega)
      have g3 : decide ((3 : Int) < (ks.length : Int)) = true := by simp; omega
      clear h3
      go_wp2_with fail
      refine bodyPost_ret (results_tmp2 rfl _ _ _) rfl ?_
      exact ⟨0, by rw [HN.out]; rfl, fun h => absurd HN.out h, HB2.out⟩
    · have H3 := hid' (show ks.length ≤ 3 by omega)
      have g3 : decide ((3 : Int) < (ks.length : Int)) = false := by simp; omega
      clear h3
      go_wp2_with fail
      clear g3 g200
      go_loopw [7, 8] (fun lv iv wr => ∃ (i : Nat), iv = .int .i64 (i : Int) ∧ i ≤ ks.length ∧ Hid (Below w.heap.size w wr ∧ wr.heap[w.heap.size]? = some (.cells #[.int .i64 op, .int .i64 n, .string s, .slice q ks.length c] 24 (0, 0)) ∧ IntRow (w.heap.size + 1) wr lv (Co.codes (ks.take i)) ∧ ∀ k ∈ ks.take i, k.letter ≠ 0)) (fun _ iv _ => ks.length - (intOf iv).toNat)
      case atStart => exact ⟨0, rfl, Nat.zero_le _, hid' ⟨HB2.out, HC2.out, IntRow.nil _ _, fun k h => by cases h⟩⟩
      case round =>
        obtain ⟨i, rfl, hi, HJ⟩ := hrel
        obtain ⟨d0, d1, d2, d3⟩ := heap_cells4 HJ.out.2.1
        by_cases hik : i < ks.length
        · obtain ⟨k, hkk⟩ : ∃ k, ks[i]? = some k := ⟨_, List.getElem?_eq_getElem hik⟩
          obtain ⟨vk, hrow, hvk⟩ := HK.out i k hkk
          obtain ⟨b, off, x0, y0, z0, u0, e, hlb, hve, r0, r1, r2, r3⟩ := hrow.keep (fun b h hl => ⟨h, HJ.out.1.block b hl⟩)
          subst e
          have HKV := hid' hvk
          obtain ⟨pk, ck, rfl, -, -, -, -, -⟩ := hvk.open
          obtain ⟨rfl, rfl, rfl, rfl⟩ : .int .i64 k.op = x0 ∧ .int .i64 k.n = y0 ∧ .string k.s = z0 ∧ .slice pk k.ks.length ck = u0 := by simpa using hve
          have g0 : decide ((i : Int) < (ks.length : Int)) = true := by simp; omega
          have j1 : (0 : Int) ≤ (i : Int) := by omega
          have j2 : (i : Int) < (ks.length : Int) := by omega
          have hiw : IntKind.i64.wrap ((i : Int) + 1) = (i : Int) + 1 := IntWalk.i64_in _ (by have := H3.out; omega)
          have HKK := hid' hkk
          clear hve hkk hrow hvk
          go_wp2_with fail
          refine (HIH.out k (List.mem_of_getElem? HKK.out) (d + 1) ok _ wr (HKV.out.under HJ.out.1) (HSZ.out k (List.mem_of_getElem? HKK.out)) (by have := HD.out; omega) (HDD.out k (List.mem_of_getElem? HKK.out))).mono ?_
          rintro e w5 ⟨x, rfl, hx, b5⟩
          have HJ5 := hid' (show Below w.heap.size w w5 ∧ w5.heap[w.heap.size]? = some (.cells #[.int .i64 op, .int .i64 n, .string s, .slice (some ⟨b, off, none⟩) ks.length c] 24 (0, 0)) from ⟨HJ.out.1.trans (b5.mono HJ.out.1.size), (b5.block _ (lt_of_block HJ.out.2.1)).trans HJ.out.2.1⟩)
          have HR5 := hid' (HJ.out.2.2.1.below b5)
          have HL5 := hid' HJ.out.2.2.2
          clear b5 r0 r1 r2 r3 d0 d1 d2 d3
          obtain ⟨g, hg⟩ : ∃ g, Hid ((k.letter != 0) = g) := ⟨_, hid' rfl⟩
          rw [hg.out]
          cases g with
          | false =>
            have HN := hid' (show L = 0 by
              rw [← hL.out]
              by_cases h : (Co.T.mk op n s ks).letter = 0
              · exact h
              · have h1 := Co.kids_ne h k (List.mem_of_getElem? HKK.out)
                have h2 := hg.out
                rw [bne_eq_false_iff_eq] at h2
                exact absurd h2 h1)
            go_wp2_with fail
            refine bodyPost_ret (results_tmp2 rfl _ _ _) rfl ?_
            exact ⟨0, by rw [HN.out]; rfl, fun h => absurd HN.out h, HJ5.out.1⟩
          | true =>
            have HKN := hid' (show k.letter ≠ 0 by have h2 := hg.out; rwa [bne_iff_ne] at h2)
            obtain rfl := hx HKN.out
            clear hx
            go_wp2_with (refine append_int rfl _ _ rfl (w.heap.size + 1) _ _ rfl HR5.out _ rfl (by rw [Co.codes_length, List.length_take]; have := H3.out; omega) (lt_of_block HJ5.out.2) (fun v' w' h1 h2 => ?_); refine halt' ?_)
            refine hid' ?_
            have HNX := hid' (show Below w.heap.size w w' ∧ w'.heap[w.heap.size]? = some (.cells #[.int .i64 op, .int .i64 n, .string s, .slice (some ⟨b, off, none⟩) ks.length c] 24 (0, 0)) ∧ IntRow (w.heap.size + 1) w' v' (Co.codes (ks.take (i + 1))) ∧ ∀ k ∈ ks.take (i + 1), k.letter ≠ 0 by
              refine ⟨below_own HJ5.out.1 h2 (fun k hk => (own_lt HR5.out (by omega)).symm) HJ5.out.1.size, ?_, by rw [Co.codes_take_one HKK.out]; exact h1, fun k' hk' => ?_⟩
              · exact (h2.block _ (lt_of_block HJ5.out.2) (own_lt HR5.out (by omega)).symm).trans HJ5.out.2
              · rw [take_one HKK.out] at hk'
                rcases List.mem_append.1 hk' with h | h
                · exact HL5.out k' h
                · rw [List.mem_singleton.1 h]; exact HKN.out)
            clear h1 h2 HR5 HL5 HJ5
            go_wp2_with fail
            go_roundw
            case rel => exact ⟨i + 1, by go_num, by omega, HNX⟩
            case measure => simp only [intOf]; omega
        · obtain rfl : i = ks.length := by omega
          have g0 : decide (ks.length < ks.length) = false := by simp
          obtain ⟨lv, hlv⟩ : ∃ lv, lv = u7 := ⟨_, rfl⟩
          have HI := hid' (show IntsAt wr u7 (Co.codes ks) by have h := HJ.out.2.2.1.ints; rwa [List.take_length] at h)
          have HL := hid' (show ∀ k ∈ ks, k.letter ≠ 0 by have h := HJ.out.2.2.2; rwa [List.take_length] at h)
          have HBW := hid' HJ.out.1
          have HN3 := hid' (show (Co.codes ks).length ≤ 3 by rw [Co.codes_length]; exact H3.out)
          clear hik HJ
          by_cases h22 : op = 22
          · subst h22
            have HCK := hid' (Co.letter_ck HF.out HL.out)
            rw [hL.out] at HCK
            obtain ⟨l, hl⟩ : ∃ l, Hid (Co.codes ks = l) := ⟨_, hid' rfl⟩
            rw [hl.out] at HI HN3 HCK
            match l, HN3, HCK, HI, hl with
            | [], HN3, HCK, HI, hl =>
              obtain ⟨p, cc, rfl, -⟩ := HI.out
              have HLS := hid' (fun (m : Nat) => refLast_nil p cc (wr.drewN m))
              clear HIH HK HSZ HDD
              have HV := hid' (show (L != 0) = false by rw [HCK.out.1]; rfl)
              go_upto_region 13 with (fail)
              go_quiet ((go_at_call 51; exact Calls.quiet_of_same (HLS.out _)))
              go_wp2_with fail
              refine bodyPost_ret (results_tmp2 rfl _ _ _) rfl ?_
              exact ⟨0, by rw [HV.out]; rfl, fun h => absurd (by simpa using HV.out) h, Below.drewn HBW.out _⟩
            | [x], HN3, HCK, HI, hl =>
              obtain ⟨p, cc, rfl, -⟩ := HI.out
              have HLS := hid' (fun (m : Nat) => refLast_any _ [] x (wr.drewN m) (HI.out.kept (Below.drewn (Below.refl _ _) m)) (by simp))
              clear HIH HK HSZ HDD
              have HV := hid' (show (L != 0) = false by rw [HCK.out.1]; rfl)
              go_upto_region 13 with (fail)
              go_quiet ((go_at_call 51; exact Calls.quiet_of_same (HLS.out _)))
              go_wp2_with fail
              refine bodyPost_ret (results_tmp2 rfl _ _ _) rfl ?_
              exact ⟨x, by rw [HV.out]; rfl, fun h => absurd (by simpa using HV.out) h, Below.drewn HBW.out _⟩
            | [x, y], HN3, HCK, HI, hl =>
              obtain ⟨p, cc, rfl, -⟩ := HI.out
              have HLS := hid' (fun (m : Nat) => refLast_any _ [x] y (wr.drewN m) (HI.out.kept (Below.drewn (Below.refl _ _) m)) (by simp))
              clear HIH HK HSZ HDD
              have HV := hid' (show (L != 0) = false by rw [HCK.out.1]; rfl)
              go_upto_region 13 with (fail)
              go_quiet ((go_at_call 51; exact Calls.quiet_of_same (HLS.out _)))
              go_wp2_with fail
              refine bodyPost_ret (results_tmp2 rfl _ _ _) rfl ?_
              exact ⟨y, by rw [HV.out]; rfl, fun h => absurd (by simpa using HV.out) h, Below.drewn HBW.out _⟩
            | [x, y, z], HN3, HCK, HI, hl =>
              obtain ⟨p, cc, rfl, hcell⟩ := HI.out
              obtain ⟨b, off, rfl, e0⟩ := hcell 0 x rfl
              obtain ⟨b1, off1, h1, e1⟩ := hcell 1 y rfl
              obtain ⟨b2, off2, h2, e2⟩ := hcell 2 z rfl
              cases h1
              cases h2
              have HLS := hid' (fun (m : Nat) => refLast_any _ [x, y] z (wr.drewN m) (HI.out.kept (Below.drewn (Below.refl _ _) m)) (by simp))
              have HZ := hid' (show L ≠ 0 → z = Co.code L by
                intro h
                obtain ⟨a, b, c, rfl, e⟩ := HCK.out.2 h
                have := hl.out
                simp [Co.codes] at this
                rw [← e]
                exact this.2.2.symm)
              rw [Nat.add_zero] at e0
              clear hcell HIH HK HSZ HDD
              by_cases hx : x = 1
              · subst hx
                by_cases hyz : y = z
                · subst hyz
                  by_cases hy4 : y = 4
                  · subst hy4
                    have HV := hid' (show (L != 0) = false by rw [HCK.out.1]; rfl)
                    go_upto_region 13 with (fail)
                    go_quiet ((go_at_call 51; exact Calls.quiet_of_same (HLS.out _)))
                    go_wp2_with fail
                    refine bodyPost_ret (results_tmp2 rfl _ _ _) rfl ?_
                    exact ⟨4, by rw [HV.out]; rfl, fun h => absurd (by simpa using HV.out) h, Below.drewn HBW.out _⟩
                  · have g4 : (y == 4) = false := by simpa using hy4
                    have HH := hid' hy4
                    clear hy4
                    have HV := hid' (show (L != 0) = (y != 4) by rw [HCK.out.1]; simp [Co.ck])
                    go_upto_region 13 with (fail)
                    go_quiet ((go_at_call 51; exact Calls.quiet_of_same (HLS.out _)))
                    go_wp2_with fail
                    refine bodyPost_ret (results_tmp2 rfl _ _ _) rfl ?_
                    exact ⟨y, by rw [HV.out]; rfl, HZ.out, Below.drewn HBW.out _⟩
                · have g4 : (y == z) = false := by simpa using hyz
                  have HH := hid' hyz
                  clear hyz
                  have HV := hid' (show (L != 0) = false by rw [HCK.out.1]; simp [Co.ck, HH.out])
                  go_upto_region 13 with (fail)
                  go_quiet ((go_at_call 51; exact Calls.quiet_of_same (HLS.out _)))
                  go_wp2_with fail
                  refine bodyPost_ret (results_tmp2 rfl _ _ _) rfl ?_
                  exact ⟨z, by rw [HV.out]; rfl, HZ.out, Below.drewn HBW.out _⟩
              · have g4 : (x == 1) = false := by simpa using hx
                have HH := hid' hx
                clear hx
                have HV := hid' (show (L != 0) = false by rw [HCK.out.1]; simp [Co.ck, HH.out])
                go_upto_region 13 with (fail)
                go_quiet ((go_at_call 51; exact Calls.quiet_of_same (HLS.out _)))
                go_wp2_with fail
                refine bodyPost_ret (results_tmp2 rfl _ _ _) rfl ?_
                exact ⟨z, by rw [HV.out]; rfl, HZ.out, Below.drewn HBW.out _⟩
            | _ :: _ :: _ :: _ :: _, HN3, HCK, HI, hl => exact absurd HN3.out (by simp)
          · have HRK := hid' (Co.letter_rk h22 HF.out HL.out)
            rw [hL.out] at HRK
            have g22 : (op == 22) = false := by simpa using h22
            have HKS := hid' (refKids_any op wr)
            clear HIH HK HSZ HDD h22
            obtain ⟨⟨kl, ty, is⟩, hX⟩ : ∃ X, Hid (Co.rk op = X) := ⟨_, hid' rfl⟩
            rw [hX.out] at HRK HKS
            obtain ⟨l, hl⟩ : ∃ l, Hid (Co.codes ks = l) := ⟨_, hid' rfl⟩
            rw [hl.out] at HI HN3 HRK
            obtain ⟨p, cc, rfl, -⟩ := HI.out
            go_wp2_with fail
            refine HKS.out.mono ?_
            rintro e w6 ⟨kv, rfl, b6, hk6⟩
            have HB6 := hid' (HBW.out.trans (b6.mono HBW.out.size))
            have HI6 := hid' (HI.out.kept b6)
            have HK6 := hid' hk6
            obtain ⟨p6, c6, rfl, -⟩ := hk6
            clear b6
            cases is with
            | false =>
              have HV := hid' (show (L != 0) = false by rw [HRK.out.1]; rfl)
              go_wp2_with fail
              refine bodyPost_ret (results_tmp2 rfl _ _ _) rfl ?_
              exact ⟨0, by rw [HV.out]; rfl, fun h => absurd (by simpa using HV.out) h, HB6.out⟩
            | true =>
              by_cases hlen : kl.length = l.length
              · have gl : ((kl.length : Int) != (l.length : Int)) = false := by simp [hlen]
                have HLEN := hid' hlen
                clear hlen
                go_wp2_with fail
                clear gl
                go_loopw [14] (fun iv wx => ∃ (i : Nat), iv = .int .i64 (i : Int) ∧ i ≤ l.length ∧ Hid (Below w6.heap.size w6 wx ∧ l.take i = kl.take i)) (fun iv _ => l.length - (intOf iv).toNat)
                case atStart => exact ⟨0, rfl, Nat.zero_le _, hid' ⟨Below.refl _ _, rfl⟩⟩
                case round =>
                  rename_i wx _ _
                  obtain ⟨i, rfl, hi, HJ⟩ := hrel
                  have HBX := hid' (HB6.out.trans (HJ.out.1.mono HB6.out.size))
                  by_cases hik : i < l.length
                  · obtain ⟨x, hx⟩ : ∃ x, l[i]? = some x := ⟨_, List.getElem?_eq_getElem hik⟩
                    obtain ⟨y, hy⟩ : ∃ y, kl[i]? = some y := ⟨_, List.getElem?_eq_getElem (by have := HLEN.out; omega)⟩
                    obtain ⟨p1, c1', e1, hc1⟩ := HI6.out.kept HJ.out.1
                    obtain ⟨p2, c2', e2, hc2⟩ := HK6.out.kept HJ.out.1
                    cases e1
                    cases e2
                    obtain ⟨ba, oa, rfl, a1⟩ := hc1 i x hx
                    obtain ⟨bb, ob, rfl, a2⟩ := hc2 i y hy
                    have g0 : decide ((i : Int) < (l.length : Int)) = true := by simp; omega
                    have j1 : (0 : Int) ≤ (i : Int) := by omega
                    have j2 : (i : Int) < (l.length : Int) := by omega
                    have j3 : (i : Int) < (kl.length : Int) := by have := HLEN.out; omega
                    have hiw : IntKind.i64.wrap ((i : Int) + 1) = (i : Int) + 1 := IntWalk.i64_in _ (by have := HN3.out; omega)
                    have HXY := hid' (show l.take (i + 1) = l.take i ++ [x] ∧ kl.take (i + 1) = kl.take i ++ [y] from ⟨take_one hx, take_one hy⟩)
                    clear hx hy hc1 hc2
                    by_cases hxy : x = y
                    · subst hxy
                      have HTK := hid' (show l.take (i + 1) = kl.take (i + 1) by rw [HXY.out.1, HXY.out.2, HJ.out.2])
                      go_wp2_with fail
                      go_quiet (fail)
                      go_wp2_with fail
                      go_roundw
                      case rel => exact ⟨i + 1, by go_num, by omega, hid' ⟨Below.drewn HJ.out.1 _, HTK.out⟩⟩
                      case measure => simp only [intOf]; omega
                    · have gx : (x != y) = true := by simpa using hxy
                      have HV := hid' (show (L != 0) = false by
                        rw [HRK.out.1, decide_eq_false (fun e : l = kl => hxy ?_)]
                        · rfl
                        · subst e
                          have h := HXY.out.1.symm.trans HXY.out.2
                          simpa using h)
                      clear hxy
                      go_wp2_with fail
                      go_quiet (fail)
                      go_wp2_with fail
                      refine bodyPost_ret (results_tmp2 rfl _ _ _) rfl ?_
                      exact ⟨0, by rw [HV.out]; rfl, fun h => absurd (by simpa using HV.out) h, Below.drewn HBX.out _⟩
                  · obtain rfl : i = l.length := by omega
                    have g0 : decide (l.length < l.length) = false := by simp
                    have HEQ := hid' (show l = kl by
                      have h := HJ.out.2
                      rw [List.take_length, ← HLEN.out, List.take_length] at h
                      exact h)
                    have HV := hid' (show (L != 0) = true by
                      rw [HRK.out.1, decide_eq_true HEQ.out]
                      rfl)
                    clear hik
                    go_wp2_with fail
                    refine bodyPost_ret (results_tmp2 rfl _ _ _) rfl ?_
                    exact ⟨ty, by rw [HV.out]; rfl, HRK.out.2, HBX.out⟩
              · have gl : ((kl.length : Int) != (l.length : Int)) = true := by simp; omega
                have HV := hid' (show (L != 0) = false by
                  rw [HRK.out.1, decide_eq_false (fun e : l = kl => hlen (by rw [e]))]
                  rfl)
                clear hlen
                go_wp2_with fail
                refine bodyPost_ret (results_tmp2 rfl _ _ _) rfl ?_
                exact ⟨0, by rw [HV.out]; rfl, fun h => absurd (by simpa using HV.out) h, HB6.out⟩
end Go.Proofs.YtkhileablgllcaaGreatDoor
namespace Go.Proofs.YtkhileablgllcaaGreatDoor
open Go.RowKit
set_option linter.unusedVariables false
set_option linter.unusedSimpArgs false
set_option maxRecDepth 100000
namespace Co
/-- Has it a type? -/
def T.typed (t : T) : Bool := small t && (t.letter != 0)
/-- The reference's check. -/
def T.rcheck (t : T) : Int := if t.typed = true ∧ t.letter = 99 then (if t.ahead = true then 141 else 0) else 140
theorem rcheck_good (t : T) : t.rcheck = 0 ↔ t.good := by
  unfold T.rcheck T.good T.typed
  by_cases h : (small t && (t.letter != 0)) = true ∧ t.letter = 99
  · rw [if_pos h]
    have h1 : small t = true := by
      have := h.1
      rw [Bool.and_eq_true] at this
      exact this.1
    by_cases ha : t.ahead = true
    · rw [if_pos ha]
      simp [ha]
    · rw [if_neg ha]
      simp [h1, h.2, ha]
  · rw [if_neg h]
    constructor
    · intro h'; cases h'
    · rintro ⟨h1, h2, -⟩
      exact absurd ⟨by rw [h1, h2]; rfl, h2⟩ h
/-- How far it looks, if it has a type. -/
def T.horz (t : T) : Int := if t.typed = true then t.hor else 0
theorem good_typed {t : T} (h : t.good) : t.typed = true := by
  unfold T.typed
  rw [h.1, h.2.1]
  rfl
end Co
def TypePost (R : Bool) (L : UInt8) (w : World) (e : Ending) (w' : World) : Prop := ∃ x : Int, e = .returned (.tuple #[.int .i64 x, .bool R]) ∧ (R = true → x = Co.code L) ∧ Below w.heap.size w w'
theorem refType_any (t : Co.T) (ok : Nat → Prop) (v : Value) (w : World) (hv : CoreIn ok w t v) (hsz : t.size ≤ 2000000) : Calls Tryz.prog 12 #[v] w (TypePost t.typed t.letter w) := by
  obtain ⟨op, n, s, q, ln, c, rfl, hop, hn, hs, hln⟩ := open_term hv
  have HV := hid' hv
  have HSZ := hid' hsz
  have HB := hid' ((Below.refl w.heap.size w).alloc (Nat.le_refl _) (.cells #[.int .i64 op, .int .i64 n, .string s, .slice q ln c] 24))
  have HC := hid' (heap_alloc_new w (.cells #[.int .i64 op, .int .i64 n, .string s, .slice q ln c] 24))
  obtain ⟨R, hR⟩ : ∃ R, Hid (t.typed = R) := ⟨_, hid' rfl⟩
  obtain ⟨L, hL⟩ : ∃ L, Hid (t.letter = L) := ⟨_, hid' rfl⟩
  rw [hR.out, hL.out]
  have HE := hid' (show R = (Co.small t && (L != 0)) by rw [← hR.out, ← hL.out]; rfl)
  clear hop hn hs hln hv hsz
  go_enter Tryz.func12, Tryz.ntmps12
  go_upto_region 1 with (fail)
  generalize World.alloc _ _ = w1 at *
  obtain ⟨c0, c1, c2, c3⟩ := heap_cells4 HC.out
  go_wp2_with fail
  refine (refSmall_any t ok _ w1 (HV.out.under HB.out) HSZ.out).mono ?_
  rintro e w2 ⟨rfl, b2⟩
  have HB2 := hid' (HB.out.trans (b2.mono HB.out.size))
  have HC2 := hid' ((b2.block _ (lt_of_block HC.out)).trans HC.out)
  clear b2 c0 c1 c2 c3
  obtain ⟨c0, c1, c2, c3⟩ := heap_cells4 HC2.out
  cases hsm : Co.small t with
  | false =>
    have HN := hid' (show R = false by rw [HE.out, hsm]; rfl)
    go_wp2_with fail
    refine bodyPost_ret (results_tmp2 rfl _ _ _) rfl ?_
    exact ⟨0, by rw [HN.out]; rfl, fun h => absurd (HN.out.symm.trans h) (by decide), HB2.out⟩
  | true =>
    have HD := hid' (show (1 : Int) + t.depth ≤ 201 by have := (Co.small_iff t).1 hsm; omega)
    have HN := hid' (show R = (L != 0) by rw [HE.out, hsm]; rfl)
    clear hsm
    go_wp2_with fail
    refine (refTyped_any t 1 ok _ w2 (HV.out.under HB2.out) HSZ.out (by decide) HD.out).mono ?_
    rw [hL.out]
    rintro e w3 ⟨x, rfl, hx, b3⟩
    have HB3 := hid' (HB2.out.trans (b3.mono HB2.out.size))
    have HX := hid' (show R = true → x = Co.code L from fun h => hx (by rw [HN.out, bne_iff_ne] at h; exact h))
    clear b3 hx
    rw [← HN.out]
    cases R with
    | false =>
      go_wp2_with fail
      refine bodyPost_ret (results_tmp2 rfl _ _ _) rfl ?_
      exact ⟨0, rfl, fun h => absurd h (by decide), HB3.out⟩
    | true =>
      go_wp2_with fail
      refine bodyPost_ret (results_tmp2 rfl _ _ _) rfl ?_
      exact ⟨x, rfl, fun _ => HX.out trivial, HB3.out⟩
theorem refCheck_any (t : Co.T) (ok : Nat → Prop) (v : Value) (w : World) (hv : CoreIn ok w t v) (hsz : t.size ≤ 2000000) : Calls Tryz.prog 6 #[v] w (Gives (.int .i64 t.rcheck) w) := by
  obtain ⟨op, n, s, q, ln, c, rfl, hop, hn, hs, hln⟩ := open_term hv
  have HV := hid' hv
  have HSZ := hid' hsz
  have HB := hid' ((Below.refl w.heap.size w).alloc (Nat.le_refl _) (.cells #[.int .i64 op, .int .i64 n, .string s, .slice q ln c] 24))
  have HC := hid' (heap_alloc_new w (.cells #[.int .i64 op, .int .i64 n, .string s, .slice q ln c] 24))
  obtain ⟨R, hR⟩ : ∃ R, Hid (t.typed = R) := ⟨_, hid' rfl⟩
  obtain ⟨L, hL⟩ : ∃ L, Hid (t.letter = L) := ⟨_, hid' rfl⟩
  obtain ⟨Z, hZ⟩ : ∃ Z, Hid (t.rcheck = Z) := ⟨_, hid' rfl⟩
  rw [hZ.out]
  have HE := hid' (show Z = if R = true ∧ L = 99 then (if t.ahead = true then 141 else 0) else 140 by rw [← hZ.out, ← hR.out, ← hL.out]; rfl)
  have HT := hid' (fun w' (h : Below w.heap.size w w') => refType_any t ok _ w' (hv.under h) hsz)
  rw [hR.out, hL.out] at HT
  have HL := hid' (show R = true → Co.four L by
    intro h
    rw [← hL.out]
    rw [← hR.out] at h
    refine Co.four_of ?_
    unfold Co.T.typed at h
    rw [Bool.and_eq_true, bne_iff_ne] at h
    exact h.2)
  clear hop hn hs hln hv hsz
  go_enter Tryz.func6, Tryz.ntmps6
  go_upto_region 1 with (fail)
  generalize World.alloc _ _ = w1 at *
  obtain ⟨c0, c1, c2, c3⟩ := heap_cells4 HC.out
  go_wp2_with fail
  refine (HT.out w1 HB.out).mono ?_
  rintro e w2 ⟨x, rfl, hx, b2⟩
  have HB2 := hid' (HB.out.trans (b2.mono HB.out.size))
  have HC2 := hid' ((b2.block _ (lt_of_block HC.out)).trans HC.out)
  clear b2 c0 c1 c2 c3
  obtain ⟨c0, c1, c2, c3⟩ := heap_cells4 HC2.out
  cases R with
  | false =>
    have HN := hid' (show Z = 140 by rw [HE.out, if_neg (fun h => absurd h.1 (by decide))])
    clear hx
    go_wp2_with fail
    go_ret
    exact ⟨by rw [HN.out]; rfl, HB2.out⟩
  | true =>
    obtain rfl := hx rfl
    by_cases h99 : L = 99
    · subst h99
      have HN := hid' (show Z = if t.ahead = true then 141 else 0 by rw [HE.out, if_pos ⟨rfl, rfl⟩])
      rw [show Co.code 99 = 4 by decide]
      clear hx
      go_wp2_with fail
      refine (refAhead_any t ok _ w2 (HV.out.under HB2.out) HSZ.out).mono ?_
      rintro e w3 ⟨rfl, b3⟩
      have HB3 := hid' (HB2.out.trans (b3.mono HB2.out.size))
      clear b3
      cases ha : t.ahead with
      | false =>
        have HN2 := hid' (show Z = 0 by rw [HN.out, ha]; rfl)
        clear ha
        go_wp2_with fail
        go_ret
        exact ⟨by rw [HN2.out]; rfl, HB3.out⟩
      | true =>
        have HN2 := hid' (show Z = 141 by rw [HN.out, ha]; rfl)
        clear ha
        go_wp2_with fail
        go_ret
        exact ⟨by rw [HN2.out]; rfl, HB3.out⟩
    · have HN := hid' (show Z = 140 by rw [HE.out, if_neg (fun h => h99 h.2)])
      obtain ⟨y, hy⟩ : ∃ y, Hid (Co.code L = y) := ⟨_, hid' rfl⟩
      have g4 : (y != 4) = true := by
        rw [← hy.out, bne_iff_ne]
        intro h
        exact h99 ((Co.code_inj (HL.out rfl) (.inr (.inr (.inr rfl)))).1 (h.trans (by decide)))
      rw [hy.out]
      clear h99 hx
      go_wp2_with fail
      go_ret
      exact ⟨by rw [HN.out]; rfl, HB2.out⟩
theorem refHorz_any (t : Co.T) (ok : Nat → Prop) (v : Value) (w : World) (hv : CoreIn ok w t v) (hsz : t.size ≤ 2000000) : Calls Tryz.prog 8 #[v] w (Gives (.int .i64 t.horz) w) := by
  obtain ⟨op, n, s, q, ln, c, rfl, hop, hn, hs, hln⟩ := open_term hv
  have HV := hid' hv
  have HSZ := hid' hsz
  have HB := hid' ((Below.refl w.heap.size w).alloc (Nat.le_refl _) (.cells #[.int .i64 op, .int .i64 n, .string s, .slice q ln c] 24))
  have HC := hid' (heap_alloc_new w (.cells #[.int .i64 op, .int .i64 n, .string s, .slice q ln c] 24))
  obtain ⟨R, hR⟩ : ∃ R, Hid (t.typed = R) := ⟨_, hid' rfl⟩
  obtain ⟨Z, hZ⟩ : ∃ Z, Hid (t.horz = Z) := ⟨_, hid' rfl⟩
  rw [hZ.out]
  have HE := hid' (show Z = if R = true then t.hor else 0 by rw [← hZ.out, ← hR.out]; rfl)
  have HT := hid' (fun w' (h : Below w.heap.size w w') => refType_any t ok _ w' (hv.under h) hsz)
  rw [hR.out] at HT
  clear hop hn hs hln hv hsz
  go_enter Tryz.func8, Tryz.ntmps8
  go_upto_region 1 with (fail)
  generalize World.alloc _ _ = w1 at *
  obtain ⟨c0, c1, c2, c3⟩ := heap_cells4 HC.out
  go_wp2_with fail
  refine (HT.out w1 HB.out).mono ?_
  rintro e w2 ⟨x, rfl, hx, b2⟩
  have HB2 := hid' (HB.out.trans (b2.mono HB.out.size))
  have HC2 := hid' ((b2.block _ (lt_of_block HC.out)).trans HC.out)
  clear b2 c0 c1 c2 c3 hx
  obtain ⟨c0, c1, c2, c3⟩ := heap_cells4 HC2.out
  cases R with
  | false =>
    have HN := hid' (show Z = 0 by rw [HE.out, if_neg (by decide)])
    go_wp2_with fail
    go_ret
    exact ⟨by rw [HN.out]; rfl, HB2.out⟩
  | true =>
    have HN := hid' (show Z = t.hor by rw [HE.out, if_pos rfl])
    go_wp2_with fail
    refine (refHorizon_any t ok _ w2 (HV.out.under HB2.out) HSZ.out).mono ?_
    rintro e w3 ⟨rfl, b3⟩
    have HB3 := hid' (HB2.out.trans (b3.mono HB2.out.size))
    clear b3
    go_wp2_with fail
    go_ret
    exact ⟨by rw [HN.out]; rfl, HB3.out⟩
end Go.Proofs.YtkhileablgllcaaGreatDoor
namespace Go.Proofs.YtkhileablgllcaaGreatDoor
open Go.RowKit
set_option linter.unusedVariables false
set_option linter.unusedSimpArgs false
set_option maxRecDepth 100000
theorem Co.still_eq (op n : Int) (s : ByteArray) (ks : List Co.T) : (Co.T.mk op n s ks).still = ((op != 4 && op != 5) && ks.all Co.T.still) := by
  rw [Bool.eq_iff_iff, Bool.and_eq_true, List.all_eq_true, Co.still_iff]
  simp only [Co.still_iff, Bool.and_eq_true, bne_iff_ne, Co.T.nodes, List.mem_cons, forall_eq_or_imp, Co.mem_nodess]
  constructor
  · rintro ⟨h1, h2⟩
    exact ⟨h1, fun k hk x hx => h2 x ⟨k, hk, hx⟩⟩
  · rintro ⟨h1, h2⟩
    exact ⟨h1, fun x ⟨k, hk, hx⟩ => h2 k hk x hx⟩
theorem Co.done_eq (op n : Int) (s : ByteArray) (ks : List Co.T) : (Co.T.mk op n s ks).done = (!(decide (6 ≤ op) && decide (op < 23)) && ks.all Co.T.done) := by
  rw [Bool.eq_iff_iff, Bool.and_eq_true, List.all_eq_true, Co.done_iff]
  simp only [Co.done_iff, Co.T.nodes, List.mem_cons, forall_eq_or_imp, Co.mem_nodess]
  constructor
  · rintro ⟨h1, h2⟩
    refine ⟨?_, fun k hk x hx => h2 x ⟨k, hk, hx⟩⟩
    simp only [Bool.not_eq_true', Bool.and_eq_false_iff, decide_eq_false_iff_not]
    have h1' : ¬ (6 ≤ op ∧ op < 23) := h1
    omega
  · rintro ⟨h1, h2⟩
    simp only [Bool.not_eq_true', Bool.and_eq_false_iff, decide_eq_false_iff_not] at h1
    exact ⟨by show ¬ (6 ≤ op ∧ op < 23); omega, fun x ⟨k, hk, hx⟩ => h2 k hk x hx⟩
theorem all_take_succ {α : Type} {l : List α} {i : Nat} {k : α} (f : α → Bool) (h : l[i]? = some k) : (l.take (i + 1)).all f = ((l.take i).all f && f k) := by
  rw [take_one h, List.all_append]
  simp
theorem all_false_of {α : Type} {l : List α} {k : α} {f : α → Bool} (h : k ∈ l) (hf : f k = false) : l.all f = false := by
  rw [Bool.eq_false_iff]
  intro h1
  rw [List.all_eq_true.1 h1 k h] at hf
  cases hf
end Go.Proofs.YtkhileablgllcaaGreatDoor
namespace Go.Proofs.YtkhileablgllcaaGreatDoor
open Go.RowKit
set_option linter.unusedVariables false
set_option linter.unusedSimpArgs false
set_option maxRecDepth 100000
/-- shown's term. -/
def shownT : Co.T := .mk 26 0 ⟨#[]⟩ [.mk 7 0 ⟨#[]⟩ [Co.leaf 1 400000, Co.leaf 1 600000], .mk 24 0 ⟨#[69, 85, 82]⟩ []]
theorem shown_fits : Co.fits shownT 3 = true := by kernel_rfl
theorem shown_opt : Co.opt shownT 3 = .mk 24 0 ⟨#[69, 85, 82]⟩ [] := by kernel_rfl
def rowA : Array Value := #[.int .i64 1, .int .i64 400000, .string ⟨#[]⟩, .slice none 0 0, .int .i64 1, .int .i64 600000, .string ⟨#[]⟩, .slice none 0 0]
def rowB (a : Nat) : Array Value := #[.int .i64 7, .int .i64 0, .string ⟨#[]⟩, .slice (some ⟨a, 0, none⟩) 2 2, .int .i64 24, .int .i64 0, .string ⟨#[69, 85, 82]⟩, .slice none 0 0]
theorem shown_in {ok : Nat → Prop} {W : World} {a b : Nat} (ha : W.heap[a]? = some (.cells rowA 24 (0, 0))) (hb : W.heap[b]? = some (.cells (rowB a) 24 (0, 0))) (oa : ok a) (ob : ok b) :
    CoreIn ok W shownT (.agg #[.int .i64 26, .int .i64 0, .string ⟨#[]⟩, .slice (some ⟨b, 0, none⟩) 2 2]) := by
  have ca : ∀ (i : Nat) v, rowA[i]? = some v → W.cell? ⟨a, i, none⟩ = some v := by
    intro i v h
    unfold World.cell?
    simp only [ha]
    exact h
  have cb : ∀ (i : Nat) v, (rowB a)[i]? = some v → W.cell? ⟨b, i, none⟩ = some v := by
    intro i v h
    unfold World.cell?
    simp only [hb]
    exact h
  have i64 : ∀ n : Int, -9223372036854775808 ≤ n ∧ n ≤ 9223372036854775807 → I64 n := fun n h => h
  refine CoreIn.close (ks := [.mk 7 0 ⟨#[]⟩ [Co.leaf 1 400000, Co.leaf 1 600000], .mk 24 0 ⟨#[69, 85, 82]⟩ []]) ⟨Nat.le_refl 2, by decide⟩ (i64 _ (by omega)) (i64 _ (by omega)) (by decide) (fun i k hk => ?_)
  match i with
  | 0 =>
    obtain rfl : _ = k := by simpa using hk
    refine ⟨_, ⟨b, 0, _, _, _, _, rfl, ob, rfl, cb 0 _ rfl, cb 1 _ rfl, cb 2 _ rfl, cb 3 _ rfl⟩, ?_⟩
    refine CoreIn.close (ks := [Co.leaf 1 400000, Co.leaf 1 600000]) ⟨Nat.le_refl 2, by decide⟩ (i64 _ (by omega)) (i64 _ (by omega)) (by decide) (fun i k hk => ?_)
    match i with
    | 0 =>
      obtain rfl : _ = k := by simpa using hk
      exact ⟨_, ⟨a, 0, _, _, _, _, rfl, oa, rfl, ca 0 _ rfl, ca 1 _ rfl, ca 2 _ rfl, ca 3 _ rfl⟩, coreAt_leaf (i64 _ (by omega)) (i64 _ (by omega))⟩
    | 1 =>
      obtain rfl : _ = k := by simpa using hk
      exact ⟨_, ⟨a, 0, _, _, _, _, rfl, oa, rfl, ca 4 _ rfl, ca 5 _ rfl, ca 6 _ rfl, ca 7 _ rfl⟩, coreAt_leaf (i64 _ (by omega)) (i64 _ (by omega))⟩
    | _ + 2 => simp at hk
  | 1 =>
    obtain rfl : _ = k := by simpa using hk
    refine ⟨_, ⟨b, 0, _, _, _, _, rfl, ob, rfl, cb 4 _ rfl, cb 5 _ rfl, cb 6 _ rfl, cb 7 _ rfl⟩, ?_⟩
    exact CoreIn.close (ks := []) ⟨Nat.le_refl _, by unfold maxLen; omega⟩ (i64 _ (by omega)) (i64 _ (by omega)) (by decide) (fun i k e => by simp at e)
  | _ + 2 => simp at hk
set_option maxHeartbeats 4000000 in
theorem optShown_any (w : World) : Calls Tryz.prog 4 #[] w (Gives (.bool true) w) := by
  have h1 := heap_alloc_new w (.cells rowA 24)
  have h2 := heap_alloc_new (w.alloc (.cells rowA 24)) (.cells (rowB w.heap.size) 24)
  have h3 := heap_alloc_new ((w.alloc (.cells rowA 24)).alloc (.cells (rowB w.heap.size) 24)) (.cells #[.int .i64 26, .int .i64 0, .string ⟨#[]⟩, .slice (some ⟨w.heap.size + 1, 0, none⟩) 2 2] 24)
  simp only [World.size_alloc] at h2 h3
  have z1 : ∀ (W : World) (o : Obj) (k : Nat) (x : Obj), W.heap[k]? = some x → (W.alloc o).heap[k]? = some x := fun W o k x h => (((Below.refl W.heap.size W).alloc (Nat.le_refl _) o).block k (lt_of_block h)).trans h
  replace h1 := z1 _ (.cells #[.int .i64 26, .int .i64 0, .string ⟨#[]⟩, .slice (some ⟨w.heap.size + 1, 0, none⟩) 2 2] 24) _ _ (z1 _ (.cells (rowB w.heap.size) 24) _ _ h1)
  replace h2 := z1 _ (.cells #[.int .i64 26, .int .i64 0, .string ⟨#[]⟩, .slice (some ⟨w.heap.size + 1, 0, none⟩) 2 2] 24) _ _ h2
  have hB := (((Below.refl _ w).alloc (Nat.le_refl _) (.cells rowA 24)).alloc (by simp) (.cells (rowB w.heap.size) 24)).alloc (by simp; omega) (.cells #[.int .i64 26, .int .i64 0, .string ⟨#[]⟩, .slice (some ⟨w.heap.size + 1, 0, none⟩) 2 2] 24)
  simp only [rowA, rowB] at h1 h2 h3 hB
  clear z1
  go_enter Tryz.func4, Tryz.ntmps4
  go_upto_region 2 with (fail)
  generalize World.alloc _ _ = w1 at *
  have HB := hid' hB
  have H3 := hid' h3
  have HIN := hid' (shown_in (ok := fun b => b < w1.heap.size) h1 h2 (lt_of_block h1) (lt_of_block h2))
  obtain ⟨c0, c1, c2, c3⟩ := heap_cells4 h3
  clear h1 h2 h3 hB
  go_wp2_with fail
  refine (do_any (fun b => b < w1.heap.size) shownT _ 3 w1 (fun b h => h) HIN.out (by decide)).mono ?_
  rintro e w2 ⟨b2, v, rfl, hv⟩
  rw [shown_opt] at hv
  obtain ⟨p, c, rfl, -⟩ := hv.open
  simp only [Co.T.op, Co.T.n, Co.T.s, Co.T.ks, List.length_nil]
  rw [show Co.optE shownT 3 = 0 by unfold Co.optE; rw [shown_fits]; rfl]
  have HB2 := hid' (HB.out.trans (b2.mono HB.out.size))
  clear b2 hv c0 c1 c2 c3
  have hn := heap_alloc_new w2 (.cells #[.int .i64 24, .int .i64 0, .string ⟨#[69, 85, 82]⟩, .slice p 0 c] 24)
  obtain ⟨n0, n1, n2, n3⟩ := heap_cells4 hn
  clear hn
  go_wp2_with fail
  go_ret
  exact ⟨rfl, HB2.out.trans ((Below.refl w2.heap.size w2).alloc (Nat.le_refl _) _ |>.mono HB2.out.size)⟩
theorem fits_good {t : Co.T} {p : Int} (h : Co.fits t p = true) : t.good ∧ 0 ≤ p ∧ p ≤ 15 := by
  unfold Co.fits at h
  simp only [Bool.and_eq_true, beq_iff_eq, decide_eq_true_eq] at h
  exact ⟨(Co.check_good t).1 h.1, h.2⟩
theorem fits_of {t : Co.T} {p : Int} (h : t.good) (h1 : 0 ≤ p) (h2 : p ≤ 15) : Co.fits t p = true := by
  unfold Co.fits
  rw [(Co.check_good t).2 h]
  simp [h1, h2]
/-- A term in a box of the law's own. -/
theorem box_cells {W : World} {b : Nat} {x y z u : Value} (h : W.heap[b]? = some (.cells #[x, y, z, u] 24 (0, 0))) : (W.cell? ⟨b, 0, none⟩ = some x ∧ W.cell? ⟨b, 1, none⟩ = some y) ∧ W.cell? ⟨b, 2, none⟩ = some z ∧ W.cell? ⟨b, 3, none⟩ = some u := by
  obtain ⟨h0, h1, h2, h3⟩ := heap_cells4 h
  exact ⟨⟨h0, h1⟩, h2, h3⟩
end Go.Proofs.YtkhileablgllcaaGreatDoor
namespace Go.Proofs.YtkhileablgllcaaGreatDoor
open Go.RowKit
set_option linter.unusedVariables false
set_option linter.unusedSimpArgs false
set_option maxRecDepth 100000
set_option maxHeartbeats 4000000 in
theorem law_less (t : Co.T) (v : Value) (p : Int) (w : World) (hv : CoreIn (fun b => b < w.heap.size) w t v) (hsz : t.size ≤ 2000000) : Calls Tryz.prog 3 #[v, .int .i64 p] w (True1 w) := by
  obtain ⟨op, n, s, q, ln, c, rfl, hop, hn, hs, hln⟩ := open_term hv
  have HV := hid' hv
  have HSZ := hid' hsz
  have HB0 := hid' ((Below.refl w.heap.size w).alloc (Nat.le_refl _) (.cells #[.int .i64 op, .int .i64 n, .string s, .slice q ln c] 24))
  have HC0 := hid' (heap_alloc_new w (.cells #[.int .i64 op, .int .i64 n, .string s, .slice q ln c] 24))
  clear hop hn hs hln hv hsz
  go_enter Tryz.func3, Tryz.ntmps3
  go_upto_region 1 with (fail)
  generalize World.alloc _ _ = w1 at *
  go_wp2_with fail
  refine (optShown_any _).mono ?_
  rintro e w2 ⟨rfl, b2⟩
  have HB2 := hid' (HB0.out.trans (b2.mono HB0.out.size))
  have HC2 := hid' ((b2.block _ (lt_of_block HC0.out)).trans HC0.out)
  clear b2
  obtain ⟨⟨c0, c1⟩, c2, c3⟩ := box_cells HC2.out
  go_wp2_with fail
  refine (do_any (fun b => b < w.heap.size) t _ p w2 (fun b h => Nat.lt_of_lt_of_le h HB2.out.size) (HV.out.under HB2.out) HSZ.out).mono ?_
  rintro e w3 ⟨b3, va, rfl, ha⟩
  obtain ⟨aop, an, ast, ap, al, ac, rfl, -⟩ := open_term ha
  have HB3 := hid' (HB2.out.trans (b3.mono HB2.out.size))
  have HC3 := hid' ((b3.block _ (lt_of_block HC2.out)).trans HC2.out)
  have HA3 := hid' ha
  clear b3 ha c0 c1 c2 c3
  have hba := (Below.refl w3.heap.size w3).alloc (Nat.le_refl _) (.cells #[.int .i64 aop, .int .i64 an, .string ast, .slice ap al ac] 24)
  have HB4 := hid' (HB3.out.trans (hba.mono HB3.out.size))
  have HC4 := hid' ((hba.block _ (lt_of_block HC3.out)).trans HC3.out)
  have HA4 := hid' (HA3.out.under hba).lt
  have HBA := hid' (heap_alloc_new w3 (.cells #[.int .i64 aop, .int .i64 an, .string ast, .slice ap al ac] 24))
  clear hba
  obtain ⟨ft, hft⟩ : ∃ ft, Hid (Co.fits t p = ft) := ⟨_, hid' rfl⟩
  cases ft with
  | false =>
    rw [show Co.optE t p = 160 by unfold Co.optE; rw [hft.out]; rfl]
    by_cases h0 : p < 0
    · have g0 : decide (p < 0) = true := decide_eq_true h0
      clear h0
      go_wp2_with fail
      go_ret
      exact ⟨rfl, HB4.out⟩
    · have g0 : decide (p < 0) = false := decide_eq_false h0
      by_cases h15 : 15 < p
      · have g1 : decide (15 < p) = true := decide_eq_true h15
        clear h0 h15
        go_wp2_with fail
        go_ret
        exact ⟨rfl, HB4.out⟩
      · have g1 : decide (15 < p) = false := decide_eq_false h15
        have HNG := hid' (show t.rcheck ≠ 0 from fun e => by
          have := fits_of ((Co.rcheck_good t).1 e) (p := p) (by omega) (by omega)
          rw [hft.out] at this
          cases this)
        clear h0 h15
        go_upto_region 4 with (fail)
        obtain ⟨ab, hab⟩ : ∃ ab, ab = w3.heap.size := ⟨_, rfl⟩
        rw [← hab] at HBA ⊢
        clear hab
        generalize World.alloc w3 _ = w4 at *
        obtain ⟨⟨c0, c1⟩, c2, c3⟩ := box_cells HC4.out
        go_wp2_with fail
        refine (refCheck_any t (fun b => b < w.heap.size) _ w4 (HV.out.under HB4.out) HSZ.out).mono ?_
        rintro e w5 ⟨rfl, b5⟩
        have HB5 := hid' (HB4.out.trans (b5.mono HB4.out.size))
        clear b5
        obtain ⟨z, hz⟩ : ∃ z, Hid (t.rcheck = z) := ⟨_, hid' rfl⟩
        have gz : (z != 0) = true := by rw [bne_iff_ne, ← hz.out]; exact HNG.out
        rw [hz.out]
        go_wp2_with fail
        go_ret
        exact ⟨rfl, HB5.out⟩
  | true =>
    rw [show Co.optE t p = 0 by unfold Co.optE; rw [hft.out]; rfl]
    have hg := fits_good hft.out
    have ea : Co.opt t p = t.rw p := by unfold Co.opt; rw [hft.out]; rfl
    rw [ea] at HA4
    have hga := Co.rw_good (p := p) hg.1
    have hkp := (Co.rw_spec p t (by rw [hg.1.2.1]; decide)).2
    have HSA := hid' (show (t.rw p).size ≤ 2000000 from Nat.le_trans hkp.size HSZ.out)
    obtain ⟨X1, hX1⟩ : ∃ X, Hid ((t.rw p).rcheck = X) := ⟨_, hid' rfl⟩
    obtain ⟨X2, hX2⟩ : ∃ X : Int, Hid (((t.rw p).size : Int) = X) := ⟨_, hid' rfl⟩
    obtain ⟨X3, hX3⟩ : ∃ X : Int, Hid ((t.size : Int) = X) := ⟨_, hid' rfl⟩
    obtain ⟨X4, hX4⟩ : ∃ X, Hid ((t.rw p).horz = X) := ⟨_, hid' rfl⟩
    obtain ⟨X5, hX5⟩ : ∃ X, Hid (t.horz = X) := ⟨_, hid' rfl⟩
    have g1 : (X1 == 0) = true := by rw [beq_iff_eq, ← hX1.out]; exact (Co.rcheck_good _).2 hga
    have g2 : decide (X2 ≤ X3) = true := decide_eq_true (by rw [← hX2.out, ← hX3.out]; exact Int.ofNat_le.2 hkp.size)
    have g3 : decide (X4 ≤ X5) = true := decide_eq_true (by
      rw [← hX4.out, ← hX5.out]
      unfold Co.T.horz
      rw [if_pos (Co.good_typed hga), if_pos (Co.good_typed hg.1)]
      exact hkp.hor hg.1)
    clear hg ea hga hkp
    go_upto_region 5 with (fail)
    obtain ⟨ab, hab⟩ : ∃ ab, ab = w3.heap.size := ⟨_, rfl⟩
    rw [← hab] at HBA ⊢
    clear hab
    generalize World.alloc w3 _ = w4 at *
    have K1 := hid' (fun w' (h : Below w4.heap.size w4 w') => refCheck_any (t.rw p) _ _ w' (HA4.out.under h) HSA.out)
    have K2 := hid' (fun w' (h : Below w4.heap.size w4 w') => refSize_any (t.rw p) _ _ w' (HA4.out.under h) HSA.out)
    have K3 := hid' (fun w' (h : Below w4.heap.size w4 w') => refSize_any t (fun b => b < w.heap.size) _ w' (HV.out.under (HB4.out.trans (h.mono HB4.out.size))) HSZ.out)
    have K4 := hid' (fun w' (h : Below w4.heap.size w4 w') => refHorz_any (t.rw p) _ _ w' (HA4.out.under h) HSA.out)
    have K5 := hid' (fun w' (h : Below w4.heap.size w4 w') => refHorz_any t (fun b => b < w.heap.size) _ w' (HV.out.under (HB4.out.trans (h.mono HB4.out.size))) HSZ.out)
    rw [hX1.out] at K1
    rw [hX2.out] at K2
    rw [hX3.out] at K3
    rw [hX4.out] at K4
    rw [hX5.out] at K5
    refine wp_region_keep (Below w4.heap.size w4) (by kernel_rfl) (by kernel_rfl) (Below.refl _ _).drew ?_
    repeat (first
      | (refine wpKeep_skip ?_ ?_
         · rfl
         simp only [Act.put, List.setIfInBounds_toArray, List.set_cons_zero, List.set_cons_succ])
      | (apply wpKeep_call 6 #[.agg #[.int .i64 aop, .int .i64 an, .string ast, .slice ap al ac]]
         · rfl
         · (intro w' hSw; obtain ⟨⟨c0, c1⟩, c2, c3⟩ := box_cells ((hSw.block _ (lt_of_block HC4.out)).trans HC4.out); obtain ⟨⟨a0, a1⟩, a2, a3⟩ := box_cells ((hSw.block _ (lt_of_block HBA.out)).trans HBA.out); go_simp; done)
         · (intro w' hSw; refine (K1.out _ hSw).mono ?_; rintro e w'' ⟨rfl, b⟩; exact ⟨rfl, hSw.trans (b.mono hSw.size)⟩)
         simp only [Act.put, List.setIfInBounds_toArray, List.set_cons_zero, List.set_cons_succ])
      | (apply wpKeep_call 7 #[.agg #[.int .i64 aop, .int .i64 an, .string ast, .slice ap al ac]]
         · rfl
         · (intro w' hSw; obtain ⟨⟨c0, c1⟩, c2, c3⟩ := box_cells ((hSw.block _ (lt_of_block HC4.out)).trans HC4.out); obtain ⟨⟨a0, a1⟩, a2, a3⟩ := box_cells ((hSw.block _ (lt_of_block HBA.out)).trans HBA.out); go_simp; done)
         · (intro w' hSw; refine (K2.out _ hSw).mono ?_; rintro e w'' ⟨rfl, b⟩; exact ⟨rfl, hSw.trans (b.mono hSw.size)⟩)
         simp only [Act.put, List.setIfInBounds_toArray, List.set_cons_zero, List.set_cons_succ])
      | (apply wpKeep_call 7 #[.agg #[.int .i64 op, .int .i64 n, .string s, .slice q ln c]]
         · rfl
         · (intro w' hSw; obtain ⟨⟨c0, c1⟩, c2, c3⟩ := box_cells ((hSw.block _ (lt_of_block HC4.out)).trans HC4.out); obtain ⟨⟨a0, a1⟩, a2, a3⟩ := box_cells ((hSw.block _ (lt_of_block HBA.out)).trans HBA.out); go_simp; done)
         · (intro w' hSw; refine (K3.out _ hSw).mono ?_; rintro e w'' ⟨rfl, b⟩; exact ⟨rfl, hSw.trans (b.mono hSw.size)⟩)
         simp only [Act.put, List.setIfInBounds_toArray, List.set_cons_zero, List.set_cons_succ])
      | (apply wpKeep_call 8 #[.agg #[.int .i64 aop, .int .i64 an, .string ast, .slice ap al ac]]
         · rfl
         · (intro w' hSw; obtain ⟨⟨c0, c1⟩, c2, c3⟩ := box_cells ((hSw.block _ (lt_of_block HC4.out)).trans HC4.out); obtain ⟨⟨a0, a1⟩, a2, a3⟩ := box_cells ((hSw.block _ (lt_of_block HBA.out)).trans HBA.out); go_simp; done)
         · (intro w' hSw; refine (K4.out _ hSw).mono ?_; rintro e w'' ⟨rfl, b⟩; exact ⟨rfl, hSw.trans (b.mono hSw.size)⟩)
         simp only [Act.put, List.setIfInBounds_toArray, List.set_cons_zero, List.set_cons_succ])
      | (apply wpKeep_call 8 #[.agg #[.int .i64 op, .int .i64 n, .string s, .slice q ln c]]
         · rfl
         · (intro w' hSw; obtain ⟨⟨c0, c1⟩, c2, c3⟩ := box_cells ((hSw.block _ (lt_of_block HC4.out)).trans HC4.out); obtain ⟨⟨a0, a1⟩, a2, a3⟩ := box_cells ((hSw.block _ (lt_of_block HBA.out)).trans HBA.out); go_simp; done)
         · (intro w' hSw; refine (K5.out _ hSw).mono ?_; rintro e w'' ⟨rfl, b⟩; exact ⟨rfl, hSw.trans (b.mono hSw.size)⟩)
         simp only [Act.put, List.setIfInBounds_toArray, List.set_cons_zero, List.set_cons_succ])
      | (apply wpKeep_val
         · rfl
         · (intro w' hSw; obtain ⟨⟨c0, c1⟩, c2, c3⟩ := box_cells ((hSw.block _ (lt_of_block HC4.out)).trans HC4.out); obtain ⟨⟨a0, a1⟩, a2, a3⟩ := box_cells ((hSw.block _ (lt_of_block HBA.out)).trans HBA.out); first | (go_simp; done) | (go_simp; with_reducible rfl))
         simp only [Act.put, List.setIfInBounds_toArray, List.set_cons_zero, List.set_cons_succ]))
    refine wpKeep_nil ?_
    intro w5 hS'
    have HB5 := hid' (HB4.out.trans (hS'.mono HB4.out.size))
    clear hS'
    go_wp2_with fail
    go_ret
    exact ⟨rfl, HB5.out⟩
end Go.Proofs.YtkhileablgllcaaGreatDoor
