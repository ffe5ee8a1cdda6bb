/- Proved: lemmas and contracts of the functions that the law reaches, part 2 of 4: DnTerm. Conditions: as each states. -/
import Derived.Laws.ResultCell
import Derived.Test.YtcpobnknmegkmaaDoorDnl3
import Derived.Test.YtcpobnknmegkmaaDoorDnm21
namespace Go.Proofs.YtcpobnknmegkmaaDoor
open Go.RowKit
open Rw
set_option linter.unusedVariables false
set_option linter.unusedSimpArgs false
set_option maxRecDepth 100000
namespace Dn
open Co
theorem pres_in {u : T} : ∀ {ks : List T} {b : Nat}, (pres ks)[b]? = some u → ∃ i k, ks[i]? = some k ∧ sizes (ks.take i) ≤ b ∧ b < sizes (ks.take i) + k.size ∧ (pre k)[b - sizes (ks.take i)]? = some u
  | [], b, h => by simp [pres] at h
  | x :: r, b, h => by
    rw [pres] at h
    by_cases hb : b < x.size
    · rw [List.getElem?_append_left (by rw [pre_len]; exact hb)] at h
      exact ⟨0, x, rfl, by simp [sizes], by simp [sizes]; exact hb, by simpa [sizes] using h⟩
    · rw [List.getElem?_append_right (by rw [pre_len]; omega), pre_len] at h
      obtain ⟨i, k, h1, h2, h3, h4⟩ := pres_in h
      refine ⟨i + 1, k, by simpa using h1, ?_, ?_, ?_⟩
      · rw [List.take_succ_cons, sizes]; omega
      · rw [List.take_succ_cons, sizes]; omega
      · rw [List.take_succ_cons, sizes, ← h4]
        congr 1
        omega
theorem pre_in {o n : Int} {s : ByteArray} {ks : List T} {u : T} {a : Nat} (h : (pre (.mk o n s ks))[a + 1]? = some u) : ∃ i k, ks[i]? = some k ∧ 1 + sizes (ks.take i) ≤ a + 1 ∧ a + 1 < 1 + sizes (ks.take i) + k.size ∧ (pre k)[a + 1 - (1 + sizes (ks.take i))]? = some u := by
  rw [pre, List.getElem?_cons_succ] at h
  obtain ⟨i, k, h1, h2, h3, h4⟩ := pres_in h
  refine ⟨i, k, h1, by omega, by omega, ?_⟩
  rw [← h4]
  congr 1
  omega
theorem take_mono (ks : List T) {i j : Nat} (h : i ≤ j) : sizes (ks.take i) ≤ sizes (ks.take j) := by
  have := sizes_take_le (ks.take j) i
  rw [List.take_take, Nat.min_eq_left h] at this
  exact this
end Dn
theorem core_put {n b : Nat} {w W : World} {x0 x1 x2 x3 y0 y1 y2 y3 : Value} {ty : TypeId} (hB : Below n w W) (hn : n ≤ b) (h : W.heap[b]? = some (.cells #[x0, x1, x2, x3] ty (0, 0))) :
    Below n w ((((W.setCell ⟨b, 0, none⟩ y0).setCell ⟨b, 1, none⟩ y1).setCell ⟨b, 2, none⟩ y2).setCell ⟨b, 3, none⟩ y3) ∧ ((((W.setCell ⟨b, 0, none⟩ y0).setCell ⟨b, 1, none⟩ y1).setCell ⟨b, 2, none⟩ y2).setCell ⟨b, 3, none⟩ y3).heap[b]? = some (.cells #[y0, y1, y2, y3] ty (0, 0)) := by
  refine ⟨(((hB.setCell (p := ⟨b, 0, none⟩) hn y0).setCell (p := ⟨b, 1, none⟩) hn y1).setCell (p := ⟨b, 2, none⟩) hn y2).setCell (p := ⟨b, 3, none⟩) hn y3, ?_⟩
  have h0 := heap_setCell_same W b 0 _ _ y0 h
  have h1 := heap_setCell_same _ b 1 _ _ y1 h0
  have h2 := heap_setCell_same _ b 2 _ _ y2 h1
  have h3 := heap_setCell_same _ b 3 _ _ y3 h2
  rw [h3]
  simp
set_option maxHeartbeats 8000000 in
theorem refTerm_yes (t : Co.T) : ∀ (ok : Nat → Prop) (v : Value) (w : World) (a : Nat) (u : Co.T), CoreIn ok w t v → t.size ≤ 2000000 → (Dn.pre t)[a]? = some u →
    Calls Tryd.prog 24 #[v, .int .i64 (a : Int)] w fun e w' => Below w.heap.size w w' ∧ ∃ vu, e = .returned (.tuple #[vu, .bool true]) ∧ ∃ p c, vu = .agg #[.int .i64 u.op, .int .i64 u.n, .string u.s, .slice p u.ks.length c] := by
  induction t using Co.T.ind with | h op n s ks ih => ?_
  intro ok v w a u hv hsz hu
  obtain ⟨uo, un, us, uk⟩ := u
  have HV := hid' hv
  obtain ⟨q, c, rfl, hc, ho, hn, hs, hk⟩ := hv.open
  simp only [Co.T.op, Co.T.n, Co.T.s, Co.T.ks] at hk ⊢
  obtain ⟨ul, hul⟩ : ∃ l, Hid (uk.length = l) := ⟨_, hid' rfl⟩
  rw [hul.out]
  have ha := (List.getElem?_eq_some_iff.1 hu).1
  rw [Dn.pre_len] at ha
  have HIH := hid' ih
  have HK := hid' hk
  have HU := hid' hu
  have HZS := hid' (show Co.sizes ks ≤ 2000000 by rw [Co.T.size] at hsz; omega)
  have HZ := hid' (show ks.length ≤ 2000000 by rw [Co.T.size] at hsz; have := Co.sizes_len ks; omega)
  have HSZ := hid' (fun k (h : k ∈ ks) => show k.size ≤ 2000000 by have := Co.sizes_mem h; rw [Co.T.size] at hsz; omega)
  have HAL := hid' (show a < 1 + Co.sizes ks by rw [Co.T.size] at ha; exact ha)
  have b1 := ((Below.refl w.heap.size w).alloc (Nat.le_refl _) (.cells #[.int .i64 op, .int .i64 n, .string s, .slice q ks.length c] 24)).alloc (by simp) (.cells #[.int .i64 0, .int .i64 0, .string ⟨#[]⟩, .slice none 0 0] 24)
  have HB := hid' b1
  have z1 : ∀ (W : World) (o : Obj) (k : Nat) (x : Obj), W.heap[k]? = some x → (W.alloc o).heap[k]? = some x := fun W o k x h => (((Below.refl W.heap.size W).alloc (Nat.le_refl _) o).block k (lt_of_block h)).trans h
  have HC := hid' (z1 _ (.cells #[.int .i64 0, .int .i64 0, .string ⟨#[]⟩, .slice none 0 0] 24) _ _ (heap_alloc_new w (.cells #[.int .i64 op, .int .i64 n, .string s, .slice q ks.length c] 24)))
  have ho := heap_alloc_new (w.alloc (.cells #[.int .i64 op, .int .i64 n, .string s, .slice q ks.length c] 24)) (.cells #[.int .i64 0, .int .i64 0, .string ⟨#[]⟩, .slice none 0 0] 24)
  rw [World.size_alloc] at ho
  have HO := hid' ho
  clear ih hk hc ho hn hs hsz hv hu ha b1 z1
  go_enter Tryd.func24, Tryd.ntmps24
  go_upto_region 1 with (fail)
  generalize World.alloc _ _ = w1 at *
  obtain ⟨c0, c1, c2, c3⟩ := heap_cells4 HC.out
  obtain ⟨o0, o1, o2, o3⟩ := heap_cells4 HO.out
  have f0 := frozen_of (o := 0) HO.out
  have f1 := frozen_of (o := 1) HO.out
  have f2 := frozen_of (o := 2) HO.out
  have f3 := frozen_of (o := 3) HO.out
  cases a with
  | zero =>
    have g0 : ((((0 : Nat) : Int)) == 0) = true := rfl
    go_upto_region 2 with (fail)
    go_wp2_with fail
    have hp := core_put (y0 := .int .i64 op) (y1 := .int .i64 n) (y2 := .string s) (y3 := .slice q ks.length c) HB.out (Nat.le_succ _) HO.out
    clear o0 o1 o2 o3 f0 f1 f2 f3 c0 c1 c2 c3
    generalize World.setCell _ _ _ = w2 at *
    obtain ⟨hb2, hh2⟩ := hp
    obtain ⟨o0, o1, o2, o3⟩ := heap_cells4 hh2
    have hu := HU.out
    rw [Dn.pre_head] at hu
    obtain ⟨rfl, rfl, rfl, rfl⟩ := Co.T.mk.inj (Option.some.inj hu)
    obtain rfl := hul.out
    exact bodyPost_ret (v := .tuple #[.agg #[.int .i64 op, .int .i64 n, .string s, .slice q ks.length c], .bool true]) (by rw [results_cell_tmp rfl]; go_simp) rfl ⟨hb2, _, rfl, _, _, rfl⟩
  | succ a =>
    have g0 : ((((a + 1 : Nat) : Int)) == 0) = false := by rw [beq_eq_false_iff_ne]; omega
    obtain ⟨i0, k0, h0, h1, h2, h3⟩ := Dn.pre_in HU.out
    have HI0 := hid' h0
    have HI1 := hid' h1
    have HI2 := hid' h2
    have HI3 := hid' h3
    have HIL := hid' (List.getElem?_eq_some_iff.1 h0).1
    clear h0 h1 h2 h3 HU HV c0 c1 c2 c3 o0 o1 o2 o3 f0 f1 f2 f3
    obtain ⟨A, hA⟩ : ∃ A : Int, A = ((a + 1 : Nat) : Int) := ⟨_, rfl⟩
    rw [← hA] at g0 ⊢
    have HA := hid' hA
    clear hA
    go_wp2_with fail
    clear g0
    go_loopw [6, 7] (fun fv iv wr => ∃ (i : Nat), iv = .int .i64 (i : Int) ∧ fv = .int .i64 ((1 + Co.sizes (ks.take i) : Nat) : Int) ∧ Hid (i ≤ i0) ∧ Hid (Below w1.heap.size w1 wr)) (fun _ iv _ => i0 - (intOf iv).toNat)
    case atStart => exact ⟨0, rfl, by simp [Co.sizes], hid' (Nat.zero_le _), hid' (Below.refl _ _)⟩
    case round =>
      obtain ⟨i, rfl, rfl, HI, HJ⟩ := hrel
      have hcr := box_below HJ.out HC.out
      have hor := box_below HJ.out HO.out
      have HB1 := hid' (HB.out.trans (HJ.out.mono HB.out.size))
      obtain ⟨d0, d1, d2, d3⟩ := heap_cells4 hcr
      have hil : i < ks.length := by have := HI.out; have := HIL.out; omega
      obtain ⟨k, hkk⟩ : ∃ k, ks[i]? = some k := ⟨_, List.getElem?_eq_getElem hil⟩
      obtain ⟨vk, hrow, hvk⟩ := HK.out i k hkk
      obtain ⟨b, off, x0, y0, z0, u0, e, hlb, hve, r0, r1, r2, r3⟩ := hrow.keep (fun b h hl => ⟨h, HB1.out.block b hl⟩)
      subst e
      have HKV := hid' hvk
      obtain ⟨pk, ck, rfl, -, -, -, -, -⟩ := hvk.open
      obtain ⟨rfl, rfl, rfl, rfl⟩ : .int .i64 k.op = x0 ∧ .int .i64 k.n = y0 ∧ .string k.s = z0 ∧ .slice pk k.ks.length ck = u0 := by simpa using hve
      have j1 : (0 : Int) ≤ (i : Int) := by omega
      have j2 : (i : Int) < (ks.length : Int) := by omega
      have hiw : IntKind.i64.wrap ((i : Int) + 1) = (i : Int) + 1 := IntWalk.i64_in _ (by have := HZ.out; omega)
      have HKK := hid' hkk
      have hzt := Co.sizes_take hkk
      have hzl := Dn.take_sizes hkk
      have hzz := HZS.out
      have hmo := Dn.take_mono ks HI.out
      have hin1 := HI1.out
      obtain ⟨fm, hfm⟩ : ∃ fm : Nat, fm = 1 + Co.sizes (ks.take i) := ⟨_, rfl⟩
      rw [← hfm]
      have hfw : IntKind.i64.wrap ((fm : Int) + (k.size : Int)) = (fm : Int) + (k.size : Int) := IntWalk.i64_in _ (by omega)
      have hge : (fm : Int) ≤ A := by rw [HA.out]; omega
      have HSK := hid' (refSize_any k ok _ wr (HKV.out.under HB1.out) (HSZ.out k (List.mem_of_getElem? hkk)))
      have HFN := hid' (show ((fm : Int) + (k.size : Int)) = ((1 + Co.sizes (ks.take (i + 1)) : Nat) : Int) by rw [hzt, hfm]; omega)
      have hlt3 : (fm : Int) + (k.size : Int) ≤ 2000001 := by omega
      have HFM := hid' hfm
      have HRW := hid' (And.intro r0 (And.intro r1 (And.intro r2 r3)))
      have HRD := hid' (And.intro hcr hor)
      clear hve hkk hrow hvk hzt hzl hzz hmo hin1 hfm hcr hor
      by_cases hlt : A < (fm : Int) + (k.size : Int)
      · have g1 : decide (A < (fm : Int) + (k.size : Int)) = true := decide_eq_true hlt
        have HLT := hid' hlt
        clear hlt
        go_upto_region 8 with (first | (go_at_call 15; refine HSK.out.mono ?_; rintro e w5 ⟨rfl, b5⟩; have HB5 := hid' b5; clear b5))
        have HB6 := hid' (HB1.out.trans (HB5.out.mono HB1.out.size))
        obtain ⟨hcr, hor⟩ := HRD.out
        have hor5 := hid' (box_below HB5.out hor)
        obtain ⟨d0, d1, d2, d3⟩ := heap_cells4 (box_below HB5.out hcr)
        obtain ⟨r0, r1, r2, r3⟩ := HRW.out
        replace r0 := keep_all HB5.out _ _ r0
        replace r1 := keep_all HB5.out _ _ r1
        replace r2 := keep_all HB5.out _ _ r2
        replace r3 := keep_all HB5.out _ _ r3
        have hi0 : i = i0 := by
          apply Decidable.byContradiction
          intro hne
          have h1 := HI.out
          have h2 := Dn.take_mono ks (show i + 1 ≤ i0 by omega)
          have h3 := HI1.out
          have h4 := HLT.out
          have h5 := HFN.out
          have h6 := HA.out
          omega
        subst hi0
        obtain rfl : k0 = k := Option.some.inj (HI0.out.symm.trans HKK.out)
        obtain ⟨m, hm⟩ : ∃ m : Nat, m = a + 1 - fm := ⟨_, rfl⟩
        have hAm : A - (fm : Int) = (m : Int) := by have := HA.out; omega
        have hmw : IntKind.i64.wrap (m : Int) = (m : Int) := IntWalk.i64_in _ (by have := HAL.out; have := HZS.out; omega)
        have HT := hid' (HIH.out k0 (List.mem_of_getElem? HKK.out) ok _ w5 m (.mk uo un us uk) (HKV.out.under HB6.out) (HSZ.out k0 (List.mem_of_getElem? HKK.out)) (by rw [hm, HFM.out]; exact HI3.out))
        have g2 : decide ((fm : Int) ≤ A) = true := decide_eq_true hge
        clear hm hcr hor hge
        go_wp2_with (first | (go_at_call 24; refine HT.out.mono ?_; rintro e w6 ⟨b6, vu, rfl, pu, cu, hue⟩; replace hue : vu = .agg #[.int .i64 uo, .int .i64 un, .string us, .slice pu uk.length cu] := hue; rw [hul.out] at hue; subst hue; have HB7 := hid' (HB6.out.trans (b6.mono HB6.out.size)); have hor6 := box_below b6 hor5.out; obtain ⟨o0, o1, o2, o3⟩ := heap_cells4 hor6; have f0 := frozen_of (o := 0) hor6; have f1 := frozen_of (o := 1) hor6; have f2 := frozen_of (o := 2) hor6; have f3 := frozen_of (o := 3) hor6; have HO6 := hid' hor6; clear hor6 b6 r0 r1 r2 r3 d0 d1 d2 d3))
        have hp := core_put (y0 := .int .i64 uo) (y1 := .int .i64 un) (y2 := .string us) (y3 := .slice pu ul cu) HB7.out (Nat.le_succ _) HO6.out
        clear o0 o1 o2 o3 f0 f1 f2 f3
        generalize World.setCell _ _ _ = w7 at *
        obtain ⟨hb7, hh7⟩ := hp
        obtain ⟨o0, o1, o2, o3⟩ := heap_cells4 hh7
        exact bodyPost_ret (v := .tuple #[.agg #[.int .i64 uo, .int .i64 un, .string us, .slice pu ul cu], .bool true]) (by rw [results_cell_tmp rfl]; go_simp) rfl ⟨hb7, _, rfl, pu, cu, rfl⟩
      · have g1 : decide (A < (fm : Int) + (k.size : Int)) = false := decide_eq_false hlt
        have hne : i ≠ i0 := by
          rintro rfl
          obtain rfl : k0 = k := Option.some.inj (HI0.out.symm.trans HKK.out)
          have h3 := HI2.out
          have h4 := HFM.out
          have h6 := HA.out
          omega
        have HNE := hid' hne
        have g2 : decide ((fm : Int) ≤ A) = true := decide_eq_true hge
        clear hlt hne hge
        go_wp2_with (first | (go_at_call 15; refine HSK.out.mono ?_; rintro e w5 ⟨rfl, b5⟩; have HB5 := hid' b5; clear b5))
        have HJ5 := hid' (HJ.out.trans (HB5.out.mono HJ.out.size))
        have HII := hid' (show i + 1 ≤ i0 by have := HI.out; have := HNE.out; omega)
        go_roundw
        case rel => exact ⟨i + 1, by go_num, by rw [HFN.out], HII, HJ5⟩
        case measure => simp only [intOf]; have := HII.out; omega
end Go.Proofs.YtcpobnknmegkmaaDoor
