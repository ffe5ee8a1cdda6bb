/- Proved: lemmas and contracts of the functions that the law reaches, part 20 of 23: OptFold, OptTwice, OptSettled, OptLater. Conditions: as each states. -/
import Derived.Laws.Rows
import Derived.Test.YtkhileablgllcaaGreatDoorOln6
import Derived.Test.YtkhileablgllcaaGreatDoorOln8
import Derived.Test.YtkhileablgllcaaGreatDoorOln19
namespace Go.Proofs.YtkhileablgllcaaGreatDoor
open Go.RowKit
set_option linter.unusedVariables false
set_option linter.unusedSimpArgs false
set_option maxRecDepth 100000
/-- What a rule answers: a term by value, and whether it fits. -/
def TermOut (ok : Nat → Prop) (o : Option Co.T) (w : World) (e : Ending) (w' : World) : Prop := Below w.heap.size w w' ∧ ∃ u v, e = .returned (.tuple #[v, .bool o.isSome]) ∧ CoreIn (fun b => ok b ∨ w.heap.size ≤ b) w' u v ∧ ∀ x, o = some x → u = x
theorem coreAt_leaf {ok : Nat → Prop} {W : World} {op n : Int} (ho : I64 op) (hn : I64 n) : CoreIn ok W (Co.leaf op n) (core0 op n ⟨#[]⟩) :=
  CoreIn.close (ks := []) ⟨Nat.le_refl _, Nat.zero_le _⟩ ho hn (by decide) (fun i k e => by simp at e)
theorem give_ret {v : Value} {w w' : World} {e : Ending} (h : Ret v w e w') : Gives v w e w' := ⟨h.1, by rw [h.2]; exact Below.refl _ _⟩
theorem give_drew {v : Value} {w w' : World} {e : Ending} (h : Drew v w e w') : Gives v w e w' := by
  obtain ⟨h1, n, rfl⟩ := h
  exact ⟨h1, Below.drewn (Below.refl _ _) n⟩
theorem fold1x (n : Int) (w : World) : Calls Tryz.prog 33 #[.int .i64 n] w (Gives (.tuple #[.agg #[.int .i64 1, .int .i64 n, .string ⟨#[]⟩, .slice none 0 0], .bool true]) w) := fold1_any n w
theorem fold2x (b : Bool) (w : World) : Calls Tryz.prog 34 #[.bool b] w (Gives (.tuple #[.agg #[.int .i64 2, .int .i64 (Co.tr b), .string ⟨#[]⟩, .slice none 0 0], .bool true]) w) := fold2_any b w
theorem fold3x (n : Int) (w : World) : Calls Tryz.prog 36 #[.int .i64 n] w (Gives (.tuple #[.agg #[.int .i64 3, .int .i64 n, .string ⟨#[]⟩, .slice none 0 0], .bool true]) w) := fold3_any n w
theorem set4 {W : World} {b : Nat} {x0 y0 z0 u0 : Value} {T : TypeId} (h : W.heap[b]? = some (.cells #[x0, y0, z0, u0] T (0, 0))) (x y z u : Value) :
    ((((W.setCell ⟨b, 0, none⟩ x).setCell ⟨b, 1, none⟩ y).setCell ⟨b, 2, none⟩ z).setCell ⟨b, 3, none⟩ u).heap[b]? = some (.cells #[x, y, z, u] T (0, 0)) ∧
      ∀ base, base ≤ b → Below base W ((((W.setCell ⟨b, 0, none⟩ x).setCell ⟨b, 1, none⟩ y).setCell ⟨b, 2, none⟩ z).setCell ⟨b, 3, none⟩ u) := by
  refine ⟨?_, fun base hb => ((((Below.refl _ _).setCell (p := ⟨b, 0, none⟩) hb _).setCell (p := ⟨b, 1, none⟩) hb _).setCell (p := ⟨b, 2, none⟩) hb _).setCell (p := ⟨b, 3, none⟩) hb _⟩
  have h1 := heap_setCell_same W b 0 _ T x h
  have h2 := heap_setCell_same _ b 1 _ T y h1
  have h3 := heap_setCell_same _ b 2 _ T z h2
  have h4 := heap_setCell_same _ b 3 _ T u h3
  rw [h4]
  simp
/-- Between two kids: so far all are constants. -/
structure FoldIt (w : World) (t : Co.T) (cs : Array Value) (i : Nat) (a b : Int) (wr : World) : Prop where
  le : i ≤ t.ks.length
  two : i ≤ 2
  con : ∀ j k, j < i → t.ks[j]? = some k → Co.isC k = true
  first : a = if 0 < i then Co.kidN t 0 else 0
  second : b = if 1 < i then Co.kidN t 1 else 0
  below : Below w.heap.size w wr
  c : wr.heap[w.heap.size]? = some (.cells cs 24 (0, 0))
  r : wr.heap[w.heap.size + 1]? = some (.cells #[.int .i64 0, .int .i64 0, .string ⟨#[]⟩, .slice none 0 0] 24 (0, 0))
  n : wr.heap[w.heap.size + 1 + 1]? = some (.cells #[.int .i64 a, .int .i64 b] 51 (0, 0))
theorem FoldIt.alloc {w : World} {t : Co.T} {cs : Array Value} {i : Nat} {a b : Int} {wr : World} (h : FoldIt w t cs i a b wr) (o : Obj) : FoldIt w t cs i a b (wr.alloc o) := by
  have hB : Below wr.heap.size wr (wr.alloc o) := (Below.refl _ _).alloc (Nat.le_refl _) _
  exact ⟨h.le, h.two, h.con, h.first, h.second, h.below.trans (hB.mono h.below.size), (hB.block _ (lt_of_block h.c)).trans h.c, (hB.block _ (lt_of_block h.r)).trans h.r, (hB.block _ (lt_of_block h.n)).trans h.n⟩
theorem FoldIt.set {w : World} {t : Co.T} {cs : Array Value} {i : Nat} {a b : Int} {wr : World} (h : FoldIt w t cs i a b wr) {k : Co.T} {kn : Int} (hk : t.ks[i]? = some k) (hc : Co.isC k = true) (hi : i < 2) (hn : k.n = kn) :
    FoldIt w t cs (i + 1) (if i = 0 then kn else a) (if i = 1 then kn else b) (wr.setCell ⟨w.heap.size + 1 + 1, i, none⟩ (.int .i64 kn)) := by
  have hkl := (List.getElem?_eq_some_iff.1 hk).1
  have hkn : Co.kidN t i = kn := by unfold Co.kidN; rw [hk]; exact hn
  refine ⟨hkl, by omega, fun j k' hj hk' => ?_, ?_, ?_, h.below.setCell (p := ⟨w.heap.size + 1 + 1, i, none⟩) (by simp; omega) _, (Below.heap_setCell _ _ _ _ (by show w.heap.size ≠ w.heap.size + 1 + 1; omega)).trans h.c, (Below.heap_setCell _ _ _ _ (by show w.heap.size + 1 ≠ w.heap.size + 1 + 1; omega)).trans h.r, ?_⟩
  · by_cases e : j = i
    · subst e
      rw [hk] at hk'
      cases hk'
      exact hc
    · exact h.con j k' (by omega) hk'
  · rcases (by omega : i = 0 ∨ i = 1) with rfl | rfl
    · simp [hkn]
    · simpa using h.first
  · rcases (by omega : i = 0 ∨ i = 1) with rfl | rfl
    · simpa using h.second
    · simp [hkn]
  · rw [heap_setCell_same _ _ _ _ _ _ h.n]
    rcases (by omega : i = 0 ∨ i = 1) with rfl | rfl <;> simp
theorem kidN_at {t : Co.T} {i : Nat} {k : Co.T} (h : t.ks[i]? = some k) : Co.kidN t i = k.n := by unfold Co.kidN; rw [h]; rfl
theorem kidN_out {t : Co.T} {i : Nat} (h : t.ks.length ≤ i) : Co.kidN t i = 0 := by unfold Co.kidN; rw [List.getElem?_eq_none h]; rfl
set_option maxHeartbeats 4000000 in
theorem optFold_any (ok : Nat → Prop) (t : Co.T) (v : Value) (w : World) (hv : CoreIn ok w t v) (hlen : t.ks.length ≤ 3) (hN : ∀ k ∈ t.ks, -1000000000000000 ≤ k.n ∧ k.n ≤ 1000000000000000) :
    Calls Tryz.prog 19 #[v] w (TermOut ok (Co.fold t) w) := by
  have HV := hid' hv
  obtain ⟨p, c, hve, hc, ho, hn, hs, hk⟩ := hv.open
  obtain ⟨op, hop⟩ : ∃ o, Hid (t.op = o) := ⟨_, hid' rfl⟩
  obtain ⟨n, hn'⟩ : ∃ o, Hid (t.n = o) := ⟨_, hid' rfl⟩
  obtain ⟨s, hs'⟩ : ∃ o, Hid (t.s = o) := ⟨_, hid' rfl⟩
  obtain ⟨ln, hln⟩ : ∃ o, Hid (t.ks.length = o) := ⟨_, hid' rfl⟩
  rw [hop.out, hn'.out, hs'.out, hln.out] at hve
  subst hve
  have HK := hid' hk
  have HLEN := hid' (show ln ≤ 3 by rw [← hln.out]; exact hlen)
  have HN := hid' hN
  have hb0 := heap_alloc_new w (.cells #[.int .i64 op, .int .i64 n, .string s, .slice p ln c] 24)
  clear hv hk hc ho hn hs hlen hN
  obtain ⟨x0, x1, x2, x3⟩ := heap_cells4 hb0
  have HB0 := hid' hb0
  clear hb0
  go_enter Tryz.func19, Tryz.ntmps19
  go_wp2_with fail
  generalize hw0 : World.alloc _ _ = w0
  have HI := hid' (show FoldIt w t #[.int .i64 op, .int .i64 n, .string s, .slice p ln c] 0 0 0 w0 from by
    rw [← hw0]
    refine ⟨Nat.zero_le _, by omega, fun j k h => by omega, by simp, by simp, ?_, ?_, ?_, ?_⟩
    · exact (((Below.refl w.heap.size w).alloc (Nat.le_refl _) _).alloc (by simp) _).alloc (by simp; omega) _
    · exact (((Below.refl _ _).alloc (Nat.le_refl _) _).block w.heap.size (by simp; omega)).trans ((((Below.refl _ _).alloc (Nat.le_refl _) _).block w.heap.size (by simp)).trans HB0.out)
    · exact (((Below.refl _ _).alloc (Nat.le_refl _) _).block (w.heap.size + 1) (by simp)).trans (by have := heap_alloc_new (w.alloc (.cells #[.int .i64 op, .int .i64 n, .string s, .slice p ln c] 24)) (.cells #[.int .i64 0, .int .i64 0, .string ⟨#[]⟩, .slice none 0 0] 24); simpa using this)
    · have := heap_alloc_new ((w.alloc (.cells #[.int .i64 op, .int .i64 n, .string s, .slice p ln c] 24)).alloc (.cells #[.int .i64 0, .int .i64 0, .string ⟨#[]⟩, .slice none 0 0] 24)) (.cells #[.int .i64 0, .int .i64 0] 51)
      simpa using this)
  clear hw0
  go_loopw [15] (fun iv wr => ∃ (i : Nat) (a b : Int), iv = .int .i64 (i : Int) ∧ Hid (FoldIt w t #[.int .i64 op, .int .i64 n, .string s, .slice p ln c] i a b wr)) (fun iv _ => ln - (intOf iv).toNat)
  case atStart => exact ⟨0, 0, 0, rfl, HI⟩
  case round =>
    obtain ⟨i, a, b, rfl, HJ⟩ := hrel
    by_cases hik : i < ln
    · obtain ⟨k, hk⟩ : ∃ k, t.ks[i]? = some k := ⟨_, List.getElem?_eq_getElem (by rw [hln.out]; exact hik)⟩
      obtain ⟨vk, hrow, hvk⟩ := HK.out i k hk
      obtain ⟨bl, off, x, y, z, u, e, hl, hve, r0, r1, r2, r3⟩ := hrow.keep (fun b ho hl => ⟨ho, HJ.out.below.block b hl⟩)
      subst e
      obtain ⟨pk, ck, rfl, -, -, -, -, -⟩ := hvk.open
      obtain ⟨kop, hkop⟩ : ∃ o, Hid (k.op = o) := ⟨_, hid' rfl⟩
      obtain ⟨kn, hkn⟩ : ∃ o, Hid (k.n = o) := ⟨_, hid' rfl⟩
      rw [hkop.out, hkn.out] at hve
      obtain ⟨rfl, rfl, rfl, rfl⟩ : .int .i64 kop = x ∧ .int .i64 kn = y ∧ .string k.s = z ∧ .slice pk k.ks.length ck = u := by simpa using hve
      clear hve hrow hvk
      have g0 : decide ((i : Int) < (ln : Int)) = true := by simp; omega
      have j1 : (0 : Int) ≤ (i : Int) := by omega
      have j2 : (i : Int) < (ln : Int) := by omega
      have hiw : IntKind.i64.wrap ((i : Int) + 1) = (i : Int) + 1 := IntWalk.i64_in _ (by have := HLEN.out; omega)
      obtain ⟨c0, c1, c2, c3⟩ := heap_cells4 HJ.out.c
      have HKK := hid' hk
      have HA := hid' (HJ.out.alloc (.cells #[.int .i64 kop, .int .i64 kn, .string k.s, .slice pk k.ks.length ck] 24))
      obtain ⟨d0, d1, d2, d3⟩ := heap_cells4 HA.out.c
      obtain ⟨e0, e1, e2, e3⟩ := heap_cells4 HA.out.r
      have f0 : ∀ o, (wr.alloc (.cells #[.int .i64 kop, .int .i64 kn, .string k.s, .slice pk k.ks.length ck] 24)).frozen? ⟨w.heap.size + 1, o, none⟩ = false := fun o => Rw.frozen_of HA.out.r
      clear hk
      by_cases h2 : 2 ≤ i
      · have g2 : decide ((1 : Int) < (i : Int)) = true := by simp; omega
        have hS := set4 HA.out.r (.int .i64 op) (.int .i64 n) (.string s) (.slice (some ⟨bl, off, none⟩) ln c)
        have HS := hid' hS
        have HF := hid' (show Co.fold t = none by
          unfold Co.fold
          rw [if_neg (fun h => by have := h.1; rw [hln.out] at this; omega)])
        clear hS
        go_wp2_with fail
        obtain ⟨hbx, hbl⟩ := HS.out
        generalize World.setCell _ _ _ = w9 at *
        obtain ⟨y0, y1, y2, y3⟩ := heap_cells4 hbx
        refine bodyPost_ret (v := .tuple #[.agg #[.int .i64 op, .int .i64 n, .string s, .slice (some ⟨bl, off, none⟩) ln c], .bool false]) (by simp [results, Tryz.results19, go_sem, y0, y1, y2, y3]) rfl ?_
        have hbb := HA.out.below.trans (hbl w.heap.size (by omega))
        exact ⟨hbb, t, _, by rw [HF.out]; rfl, (HV.out.under hbb).old, fun x h => by rw [HF.out] at h; cases h⟩
      · have g2 : decide ((1 : Int) < (i : Int)) = false := by simp; omega
        by_cases hC : kop = 1 ∨ kop = 2 ∨ kop = 3
        · have hic : Co.isC k = true := by
            unfold Co.isC
            rw [hkop.out]
            rcases hC with h | h | h <;> rw [h] <;> rfl
          have HIC := hid' hic
          clear hic
          obtain ⟨zv, z0⟩ : ∃ zv, (wr.alloc (.cells #[.int .i64 kop, .int .i64 kn, .string k.s, .slice pk k.ks.length ck] 24)).cell? ⟨w.heap.size + 1 + 1, i, none⟩ = some zv := by
            rcases (by omega : i = 0 ∨ i = 1) with rfl | rfl
            · exact ⟨_, by simp [World.cell?, HA.out.n]; rfl⟩
            · exact ⟨_, by simp [World.cell?, HA.out.n]; rfl⟩
          have j3 : (i : Int) < 2 := by omega
          have f1 : ∀ o, (wr.alloc (.cells #[.int .i64 kop, .int .i64 kn, .string k.s, .slice pk k.ks.length ck] 24)).frozen? ⟨w.heap.size + 1 + 1, o, none⟩ = false := fun o => Rw.frozen_of HA.out.n
          have HRS := hid' (HA.out.set HKK.out HIC.out (by omega) hkn.out)
          rcases hC with rfl | rfl | rfl
          all_goals
            go_wp2_with fail
            go_roundw
            case rel => exact ⟨_, _, _, by go_num, HRS⟩
            case measure => simp only [intOf]; omega
        · simp only [not_or] at hC
          have g3 : (kop != 1) = true := by simpa using hC.1
          have g4 : (kop != 2) = true := by simpa using hC.2.1
          have g5 : (kop != 3) = true := by simpa using hC.2.2
          have hS := set4 HA.out.r (.int .i64 op) (.int .i64 n) (.string s) (.slice (some ⟨bl, off, none⟩) ln c)
          have HS := hid' hS
          have HF := hid' (show Co.fold t = none by
            unfold Co.fold
            rw [if_neg (fun h => by
              have h3 := List.all_eq_true.1 h.2 k (List.mem_of_getElem? HKK.out)
              unfold Co.isC at h3
              rw [hkop.out] at h3
              simp [hC.1, hC.2.1, hC.2.2] at h3)])
          clear hC hS
          go_wp2_with fail
          obtain ⟨hbx, hbl⟩ := HS.out
          generalize World.setCell _ _ _ = w9 at *
          obtain ⟨y0, y1, y2, y3⟩ := heap_cells4 hbx
          refine bodyPost_ret (v := .tuple #[.agg #[.int .i64 op, .int .i64 n, .string s, .slice (some ⟨bl, off, none⟩) ln c], .bool false]) (by simp [results, Tryz.results19, go_sem, y0, y1, y2, y3]) rfl ?_
          have hbb := HA.out.below.trans (hbl w.heap.size (by omega))
          exact ⟨hbb, t, _, by rw [HF.out]; rfl, (HV.out.under hbb).old, fun x h => by rw [HF.out] at h; cases h⟩
    · obtain rfl : i = ln := by have := HJ.out.le; rw [hln.out] at this; omega
      have g0 : decide (i < i) = false := by simp
      have hall : t.ks.all Co.isC = true := by
        rw [List.all_eq_true]
        intro k hk
        obtain ⟨j, hj, rfl⟩ := List.mem_iff_getElem.1 hk
        exact HJ.out.con j _ (by rw [← hln.out]; exact hj) (List.getElem?_eq_getElem hj)
      have ha : a = Co.kidN t 0 := by
        rw [HJ.out.first]
        split
        · rfl
        · rw [kidN_out (by rw [hln.out]; omega)]
      have hb : b = Co.kidN t 1 := by
        rw [HJ.out.second]
        split
        · rfl
        · rw [kidN_out (by rw [hln.out]; omega)]
      have HF := hid' (show Co.fold t = Co.foldOp op a b by
        unfold Co.fold
        rw [if_pos ⟨by rw [hln.out]; exact HJ.out.two, hall⟩, hop.out, ha, hb])
      clear hall ha hb hik
      have HD := hid' (show FoldIt w t #[.int .i64 op, .int .i64 n, .string s, .slice p i c] i a b wr.drew from ⟨HJ.out.le, HJ.out.two, HJ.out.con, HJ.out.first, HJ.out.second, HJ.out.below.drew, HJ.out.c, HJ.out.r, HJ.out.n⟩)
      obtain ⟨c0, c1, c2, c3⟩ := heap_cells4 HJ.out.c
      obtain ⟨d0, d1, d2, d3⟩ := heap_cells4 HD.out.c
      have z0 : wr.drew.cell? ⟨w.heap.size + 1 + 1, 0, none⟩ = some (.int .i64 a) := by simp [World.cell?, HD.out.n]
      have z1 : wr.drew.cell? ⟨w.heap.size + 1 + 1, 1, none⟩ = some (.int .i64 b) := by simp [World.cell?, HD.out.n]
      have fin : ∀ (m o : Int) (w9 : World), Below w.heap.size w w9 → Co.foldOp op a b = some (Co.leaf o m) → I64 o → I64 m → TermOut ok (Co.fold t) w (.returned (.tuple #[.agg #[.int .i64 o, .int .i64 m, .string ⟨#[]⟩, .slice none 0 0], .bool true])) w9 := by
        intro m o w9 hb hf h1 h2
        exact ⟨hb, Co.leaf o m, _, by rw [HF.out, hf]; rfl, coreAt_leaf h1 h2, fun x hx => by rw [HF.out, hf] at hx; cases hx; rfl⟩
      have FIN := hid' fin
      clear fin
      by_cases h6 : op = 6
      · subst h6
        have HO := hid' (show Co.foldOp 6 a b = some (Co.leaf 1 (Num.neg a)) from rfl)
        go_wp2_with fail
        go_region
        all_goals
          go_wp2_with fail
          refine ((neg_any a _).mono fun _ _ => give_ret).mono ?_
          rintro e w4 ⟨rfl, b4⟩
          go_wp2_with fail
          refine (fold1x _ _).mono ?_
          rintro e w5 ⟨rfl, b5⟩
          have hr5 := ((Below.more b4 b5).block (w.heap.size + 1) (lt_of_block HD.out.r)).trans HD.out.r
          have HB5 := hid' (HD.out.below.trans ((Below.more b4 b5).mono HD.out.below.size))
          obtain ⟨e0, e1, e2, e3⟩ := heap_cells4 hr5
          have f0 : ∀ o, w5.frozen? ⟨w.heap.size + 1, o, none⟩ = false := fun o => Rw.frozen_of hr5
          have HS := hid' (set4 hr5 (.int .i64 1) (.int .i64 (Num.neg a)) (.string ⟨#[]⟩) (.slice none 0 0))
          clear b5 hr5 b4
          go_wp2_with fail
          obtain ⟨hbx, hbl⟩ := HS.out
          generalize World.setCell _ _ _ = w9 at *
          obtain ⟨y0, y1, y2, y3⟩ := heap_cells4 hbx
          refine bodyPost_ret (v := .tuple #[.agg #[.int .i64 1, .int .i64 (Num.neg a), .string ⟨#[]⟩, .slice none 0 0], .bool true]) (by simp [results, Tryz.results19, go_sem, y0, y1, y2, y3]) rfl ?_
          exact FIN.out _ _ w9 (HB5.out.trans (hbl w.heap.size (by omega))) HO.out (by unfold I64; omega) (by have := Co.neg_in a; unfold I64; omega)
      by_cases h7 : op = 7
      · subst h7
        have HO := hid' (show Co.foldOp 7 a b = some (Co.leaf 1 (Num.add a b)) from rfl)
        go_wp2_with fail
        go_region
        all_goals
          go_wp2_with fail
          refine ((add_any a b _).mono fun _ _ => give_ret).mono ?_
          rintro e w4 ⟨rfl, b4⟩
          go_wp2_with fail
          refine (fold1x _ _).mono ?_
          rintro e w5 ⟨rfl, b5⟩
          have hr5 := ((Below.more b4 b5).block (w.heap.size + 1) (lt_of_block HD.out.r)).trans HD.out.r
          have HB5 := hid' (HD.out.below.trans ((Below.more b4 b5).mono HD.out.below.size))
          obtain ⟨e0, e1, e2, e3⟩ := heap_cells4 hr5
          have f0 : ∀ o, w5.frozen? ⟨w.heap.size + 1, o, none⟩ = false := fun o => Rw.frozen_of hr5
          have HS := hid' (set4 hr5 (.int .i64 1) (.int .i64 (Num.add a b)) (.string ⟨#[]⟩) (.slice none 0 0))
          clear b5 hr5 b4
          go_wp2_with fail
          obtain ⟨hbx, hbl⟩ := HS.out
          generalize World.setCell _ _ _ = w9 at *
          obtain ⟨y0, y1, y2, y3⟩ := heap_cells4 hbx
          refine bodyPost_ret (v := .tuple #[.agg #[.int .i64 1, .int .i64 (Num.add a b), .string ⟨#[]⟩, .slice none 0 0], .bool true]) (by simp [results, Tryz.results19, go_sem, y0, y1, y2, y3]) rfl ?_
          exact FIN.out _ _ w9 (HB5.out.trans (hbl w.heap.size (by omega))) HO.out (by unfold I64; omega) (by have := Co.add_in a b; unfold I64; omega)
      by_cases h8 : op = 8
      · subst h8
        have HO := hid' (show Co.foldOp 8 a b = some (Co.leaf 1 (Num.sub a b)) from rfl)
        go_wp2_with fail
        go_region
        all_goals
          go_wp2_with fail
          refine ((sub_any a b _).mono fun _ _ => give_ret).mono ?_
          rintro e w4 ⟨rfl, b4⟩
          go_wp2_with fail
          refine (fold1x _ _).mono ?_
          rintro e w5 ⟨rfl, b5⟩
          have hr5 := ((Below.more b4 b5).block (w.heap.size + 1) (lt_of_block HD.out.r)).trans HD.out.r
          have HB5 := hid' (HD.out.below.trans ((Below.more b4 b5).mono HD.out.below.size))
          obtain ⟨e0, e1, e2, e3⟩ := heap_cells4 hr5
          have f0 : ∀ o, w5.frozen? ⟨w.heap.size + 1, o, none⟩ = false := fun o => Rw.frozen_of hr5
          have HS := hid' (set4 hr5 (.int .i64 1) (.int .i64 (Num.sub a b)) (.string ⟨#[]⟩) (.slice none 0 0))
          clear b5 hr5 b4
          go_wp2_with fail
          obtain ⟨hbx, hbl⟩ := HS.out
          generalize World.setCell _ _ _ = w9 at *
          obtain ⟨y0, y1, y2, y3⟩ := heap_cells4 hbx
          refine bodyPost_ret (v := .tuple #[.agg #[.int .i64 1, .int .i64 (Num.sub a b), .string ⟨#[]⟩, .slice none 0 0], .bool true]) (by simp [results, Tryz.results19, go_sem, y0, y1, y2, y3]) rfl ?_
          exact FIN.out _ _ w9 (HB5.out.trans (hbl w.heap.size (by omega))) HO.out (by unfold I64; omega) (by have := Co.sub_in a b; unfold I64; omega)
      by_cases h9 : op = 9
      · subst h9
        have HO := hid' (show Co.foldOp 9 a b = some (Co.leaf 1 (Num.mul a b)) from rfl)
        go_wp2_with fail
        go_region
        all_goals
          go_wp2_with fail
          refine ((mul_any a b _).mono fun _ _ => give_drew).mono ?_
          rintro e w4 ⟨rfl, b4⟩
          go_wp2_with fail
          refine (fold1x _ _).mono ?_
          rintro e w5 ⟨rfl, b5⟩
          have hr5 := ((Below.more b4 b5).block (w.heap.size + 1) (lt_of_block HD.out.r)).trans HD.out.r
          have HB5 := hid' (HD.out.below.trans ((Below.more b4 b5).mono HD.out.below.size))
          obtain ⟨e0, e1, e2, e3⟩ := heap_cells4 hr5
          have f0 : ∀ o, w5.frozen? ⟨w.heap.size + 1, o, none⟩ = false := fun o => Rw.frozen_of hr5
          have HS := hid' (set4 hr5 (.int .i64 1) (.int .i64 (Num.mul a b)) (.string ⟨#[]⟩) (.slice none 0 0))
          clear b5 hr5 b4
          go_wp2_with fail
          obtain ⟨hbx, hbl⟩ := HS.out
          generalize World.setCell _ _ _ = w9 at *
          obtain ⟨y0, y1, y2, y3⟩ := heap_cells4 hbx
          refine bodyPost_ret (v := .tuple #[.agg #[.int .i64 1, .int .i64 (Num.mul a b), .string ⟨#[]⟩, .slice none 0 0], .bool true]) (by simp [results, Tryz.results19, go_sem, y0, y1, y2, y3]) rfl ?_
          exact FIN.out _ _ w9 (HB5.out.trans (hbl w.heap.size (by omega))) HO.out (by unfold I64; omega) (by have := Co.mul_in a b; unfold I64; omega)
      by_cases h10 : op = 10
      · subst h10
        have HO := hid' (show Co.foldOp 10 a b = some (Co.leaf 1 (Num.div a b)) from rfl)
        go_wp2_with fail
        go_region
        all_goals
          go_wp2_with fail
          refine ((div_any a b _).mono fun _ _ => give_drew).mono ?_
          rintro e w4 ⟨rfl, b4⟩
          go_wp2_with fail
          refine (fold1x _ _).mono ?_
          rintro e w5 ⟨rfl, b5⟩
          have hr5 := ((Below.more b4 b5).block (w.heap.size + 1) (lt_of_block HD.out.r)).trans HD.out.r
          have HB5 := hid' (HD.out.below.trans ((Below.more b4 b5).mono HD.out.below.size))
          obtain ⟨e0, e1, e2, e3⟩ := heap_cells4 hr5
          have f0 : ∀ o, w5.frozen? ⟨w.heap.size + 1, o, none⟩ = false := fun o => Rw.frozen_of hr5
          have HS := hid' (set4 hr5 (.int .i64 1) (.int .i64 (Num.div a b)) (.string ⟨#[]⟩) (.slice none 0 0))
          clear b5 hr5 b4
          go_wp2_with fail
          obtain ⟨hbx, hbl⟩ := HS.out
          generalize World.setCell _ _ _ = w9 at *
          obtain ⟨y0, y1, y2, y3⟩ := heap_cells4 hbx
          refine bodyPost_ret (v := .tuple #[.agg #[.int .i64 1, .int .i64 (Num.div a b), .string ⟨#[]⟩, .slice none 0 0], .bool true]) (by simp [results, Tryz.results19, go_sem, y0, y1, y2, y3]) rfl ?_
          exact FIN.out _ _ w9 (HB5.out.trans (hbl w.heap.size (by omega))) HO.out (by unfold I64; omega) (by have := Co.div_in a b; unfold I64; omega)
      by_cases h20 : op = 20
      · subst h20
        have HO := hid' (show Co.foldOp 20 a b = some (Co.leaf 1 (Dt.years a b)) from rfl)
        go_wp2_with fail
        go_region
        all_goals
          go_wp2_with fail
          refine ((years_any a b _).mono fun _ _ => id).mono ?_
          rintro e w4 ⟨rfl, b4⟩
          go_wp2_with fail
          refine (fold1x _ _).mono ?_
          rintro e w5 ⟨rfl, b5⟩
          have hr5 := ((Below.more b4 b5).block (w.heap.size + 1) (lt_of_block HD.out.r)).trans HD.out.r
          have HB5 := hid' (HD.out.below.trans ((Below.more b4 b5).mono HD.out.below.size))
          obtain ⟨e0, e1, e2, e3⟩ := heap_cells4 hr5
          have f0 : ∀ o, w5.frozen? ⟨w.heap.size + 1, o, none⟩ = false := fun o => Rw.frozen_of hr5
          have HS := hid' (set4 hr5 (.int .i64 1) (.int .i64 (Dt.years a b)) (.string ⟨#[]⟩) (.slice none 0 0))
          clear b5 hr5 b4
          go_wp2_with fail
          obtain ⟨hbx, hbl⟩ := HS.out
          generalize World.setCell _ _ _ = w9 at *
          obtain ⟨y0, y1, y2, y3⟩ := heap_cells4 hbx
          refine bodyPost_ret (v := .tuple #[.agg #[.int .i64 1, .int .i64 (Dt.years a b), .string ⟨#[]⟩, .slice none 0 0], .bool true]) (by simp [results, Tryz.results19, go_sem, y0, y1, y2, y3]) rfl ?_
          exact FIN.out _ _ w9 (HB5.out.trans (hbl w.heap.size (by omega))) HO.out (by unfold I64; omega) (by have := Co.years_in a b; unfold I64; omega)
      by_cases h21 : op = 21
      · subst h21
        have HO := hid' (show Co.foldOp 21 a b = some (Co.leaf 1 (Dt.years30 a b)) from rfl)
        go_wp2_with fail
        go_region
        all_goals
          go_wp2_with fail
          refine ((years30_any a b _).mono fun _ _ => id).mono ?_
          rintro e w4 ⟨rfl, b4⟩
          go_wp2_with fail
          refine (fold1x _ _).mono ?_
          rintro e w5 ⟨rfl, b5⟩
          have hr5 := ((Below.more b4 b5).block (w.heap.size + 1) (lt_of_block HD.out.r)).trans HD.out.r
          have HB5 := hid' (HD.out.below.trans ((Below.more b4 b5).mono HD.out.below.size))
          obtain ⟨e0, e1, e2, e3⟩ := heap_cells4 hr5
          have f0 : ∀ o, w5.frozen? ⟨w.heap.size + 1, o, none⟩ = false := fun o => Rw.frozen_of hr5
          have HS := hid' (set4 hr5 (.int .i64 1) (.int .i64 (Dt.years30 a b)) (.string ⟨#[]⟩) (.slice none 0 0))
          clear b5 hr5 b4
          go_wp2_with fail
          obtain ⟨hbx, hbl⟩ := HS.out
          generalize World.setCell _ _ _ = w9 at *
          obtain ⟨y0, y1, y2, y3⟩ := heap_cells4 hbx
          refine bodyPost_ret (v := .tuple #[.agg #[.int .i64 1, .int .i64 (Dt.years30 a b), .string ⟨#[]⟩, .slice none 0 0], .bool true]) (by simp [results, Tryz.results19, go_sem, y0, y1, y2, y3]) rfl ?_
          exact FIN.out _ _ w9 (HB5.out.trans (hbl w.heap.size (by omega))) HO.out (by unfold I64; omega) (by have := Co.years30_in a b; unfold I64; omega)
      by_cases h14 : op = 14
      · subst h14
        have HO := hid' (show Co.foldOp 14 a b = some (Co.leaf 2 (Co.tr (decide (a = 0)))) from rfl)
        go_wp2_with fail
        go_region
        all_goals
          go_wp2_with fail
          refine (fold2x _ _).mono ?_
          rintro e w5 ⟨rfl, b5⟩
          have hr5 := (b5.block (w.heap.size + 1) (lt_of_block HD.out.r)).trans HD.out.r
          have HB5 := hid' (HD.out.below.trans (b5.mono HD.out.below.size))
          obtain ⟨e0, e1, e2, e3⟩ := heap_cells4 hr5
          have f0 : ∀ o, w5.frozen? ⟨w.heap.size + 1, o, none⟩ = false := fun o => Rw.frozen_of hr5
          have HS := hid' (set4 hr5 (.int .i64 2) (.int .i64 (Co.tr (a == 0))) (.string ⟨#[]⟩) (.slice none 0 0))
          clear b5 hr5
          go_wp2_with fail
          obtain ⟨hbx, hbl⟩ := HS.out
          generalize World.setCell _ _ _ = w9 at *
          obtain ⟨y0, y1, y2, y3⟩ := heap_cells4 hbx
          refine bodyPost_ret (v := .tuple #[.agg #[.int .i64 2, .int .i64 (Co.tr (a == 0)), .string ⟨#[]⟩, .slice none 0 0], .bool true]) (by simp [results, Tryz.results19, go_sem, y0, y1, y2, y3]) rfl ?_
          exact FIN.out _ _ w9 (HB5.out.trans (hbl w.heap.size (by omega))) HO.out (by unfold I64; omega) (by have := Co.tr_in (a == 0); unfold I64; omega)
      by_cases h11 : op = 11
      · subst h11
        have HO := hid' (show Co.foldOp 11 a b = some (Co.leaf 2 (Co.tr (decide (a < b)))) from rfl)
        go_wp2_with fail
        go_region
        all_goals
          go_wp2_with fail
          refine (fold2x _ _).mono ?_
          rintro e w5 ⟨rfl, b5⟩
          have hr5 := (b5.block (w.heap.size + 1) (lt_of_block HD.out.r)).trans HD.out.r
          have HB5 := hid' (HD.out.below.trans (b5.mono HD.out.below.size))
          obtain ⟨e0, e1, e2, e3⟩ := heap_cells4 hr5
          have f0 : ∀ o, w5.frozen? ⟨w.heap.size + 1, o, none⟩ = false := fun o => Rw.frozen_of hr5
          have HS := hid' (set4 hr5 (.int .i64 2) (.int .i64 (Co.tr (decide (a < b)))) (.string ⟨#[]⟩) (.slice none 0 0))
          clear b5 hr5
          go_wp2_with fail
          obtain ⟨hbx, hbl⟩ := HS.out
          generalize World.setCell _ _ _ = w9 at *
          obtain ⟨y0, y1, y2, y3⟩ := heap_cells4 hbx
          refine bodyPost_ret (v := .tuple #[.agg #[.int .i64 2, .int .i64 (Co.tr (decide (a < b))), .string ⟨#[]⟩, .slice none 0 0], .bool true]) (by simp [results, Tryz.results19, go_sem, y0, y1, y2, y3]) rfl ?_
          exact FIN.out _ _ w9 (HB5.out.trans (hbl w.heap.size (by omega))) HO.out (by unfold I64; omega) (by have := Co.tr_in (decide (a < b)); unfold I64; omega)
      by_cases h17 : op = 17
      · subst h17
        have HO := hid' (show Co.foldOp 17 a b = some (Co.leaf 2 (Co.tr (decide (a < b)))) from rfl)
        go_wp2_with fail
        go_region
        all_goals
          go_wp2_with fail
          refine (fold2x _ _).mono ?_
          rintro e w5 ⟨rfl, b5⟩
          have hr5 := (b5.block (w.heap.size + 1) (lt_of_block HD.out.r)).trans HD.out.r
          have HB5 := hid' (HD.out.below.trans (b5.mono HD.out.below.size))
          obtain ⟨e0, e1, e2, e3⟩ := heap_cells4 hr5
          have f0 : ∀ o, w5.frozen? ⟨w.heap.size + 1, o, none⟩ = false := fun o => Rw.frozen_of hr5
          have HS := hid' (set4 hr5 (.int .i64 2) (.int .i64 (Co.tr (decide (a < b)))) (.string ⟨#[]⟩) (.slice none 0 0))
          clear b5 hr5
          go_wp2_with fail
          obtain ⟨hbx, hbl⟩ := HS.out
          generalize World.setCell _ _ _ = w9 at *
          obtain ⟨y0, y1, y2, y3⟩ := heap_cells4 hbx
          refine bodyPost_ret (v := .tuple #[.agg #[.int .i64 2, .int .i64 (Co.tr (decide (a < b))), .string ⟨#[]⟩, .slice none 0 0], .bool true]) (by simp [results, Tryz.results19, go_sem, y0, y1, y2, y3]) rfl ?_
          exact FIN.out _ _ w9 (HB5.out.trans (hbl w.heap.size (by omega))) HO.out (by unfold I64; omega) (by have := Co.tr_in (decide (a < b)); unfold I64; omega)
      by_cases h12 : op = 12
      · subst h12
        have HO := hid' (show Co.foldOp 12 a b = some (Co.leaf 2 (Co.tr (decide (a ≤ b)))) from rfl)
        go_wp2_with fail
        go_region
        all_goals
          go_wp2_with fail
          refine (fold2x _ _).mono ?_
          rintro e w5 ⟨rfl, b5⟩
          have hr5 := (b5.block (w.heap.size + 1) (lt_of_block HD.out.r)).trans HD.out.r
          have HB5 := hid' (HD.out.below.trans (b5.mono HD.out.below.size))
          obtain ⟨e0, e1, e2, e3⟩ := heap_cells4 hr5
          have f0 : ∀ o, w5.frozen? ⟨w.heap.size + 1, o, none⟩ = false := fun o => Rw.frozen_of hr5
          have HS := hid' (set4 hr5 (.int .i64 2) (.int .i64 (Co.tr (decide (a ≤ b)))) (.string ⟨#[]⟩) (.slice none 0 0))
          clear b5 hr5
          go_wp2_with fail
          obtain ⟨hbx, hbl⟩ := HS.out
          generalize World.setCell _ _ _ = w9 at *
          obtain ⟨y0, y1, y2, y3⟩ := heap_cells4 hbx
          refine bodyPost_ret (v := .tuple #[.agg #[.int .i64 2, .int .i64 (Co.tr (decide (a ≤ b))), .string ⟨#[]⟩, .slice none 0 0], .bool true]) (by simp [results, Tryz.results19, go_sem, y0, y1, y2, y3]) rfl ?_
          exact FIN.out _ _ w9 (HB5.out.trans (hbl w.heap.size (by omega))) HO.out (by unfold I64; omega) (by have := Co.tr_in (decide (a ≤ b)); unfold I64; omega)
      by_cases h13 : op = 13
      · subst h13
        have HO := hid' (show Co.foldOp 13 a b = some (Co.leaf 2 (Co.tr (decide (a = b)))) from rfl)
        go_wp2_with fail
        go_region
        all_goals
          go_wp2_with fail
          refine (fold2x _ _).mono ?_
          rintro e w5 ⟨rfl, b5⟩
          have hr5 := (b5.block (w.heap.size + 1) (lt_of_block HD.out.r)).trans HD.out.r
          have HB5 := hid' (HD.out.below.trans (b5.mono HD.out.below.size))
          obtain ⟨e0, e1, e2, e3⟩ := heap_cells4 hr5
          have f0 : ∀ o, w5.frozen? ⟨w.heap.size + 1, o, none⟩ = false := fun o => Rw.frozen_of hr5
          have HS := hid' (set4 hr5 (.int .i64 2) (.int .i64 (Co.tr (a == b))) (.string ⟨#[]⟩) (.slice none 0 0))
          clear b5 hr5
          go_wp2_with fail
          obtain ⟨hbx, hbl⟩ := HS.out
          generalize World.setCell _ _ _ = w9 at *
          obtain ⟨y0, y1, y2, y3⟩ := heap_cells4 hbx
          refine bodyPost_ret (v := .tuple #[.agg #[.int .i64 2, .int .i64 (Co.tr (a == b)), .string ⟨#[]⟩, .slice none 0 0], .bool true]) (by simp [results, Tryz.results19, go_sem, y0, y1, y2, y3]) rfl ?_
          exact FIN.out _ _ w9 (HB5.out.trans (hbl w.heap.size (by omega))) HO.out (by unfold I64; omega) (by have := Co.tr_in (a == b); unfold I64; omega)
      by_cases h18 : op = 18
      · subst h18
        have HO := hid' (show Co.foldOp 18 a b = some (Co.leaf 3 (Dt.plus a (Num.whole b))) from rfl)
        go_wp2_with fail
        go_region
        all_goals
          go_wp2_with fail
          refine ((whole_any b _).mono fun _ _ => give_ret).mono ?_
          rintro e w3 ⟨rfl, b3⟩
          go_wp2_with fail
          refine ((dplus_any a (Num.whole b) _).mono fun _ _ => give_ret).mono ?_
          rintro e w4 ⟨rfl, b4⟩
          go_wp2_with fail
          refine (fold3x _ _).mono ?_
          rintro e w5 ⟨rfl, b5⟩
          have hr5 := ((Below.more b3 (Below.more b4 b5)).block (w.heap.size + 1) (lt_of_block HD.out.r)).trans HD.out.r
          have HB5 := hid' (HD.out.below.trans ((Below.more b3 (Below.more b4 b5)).mono HD.out.below.size))
          obtain ⟨e0, e1, e2, e3⟩ := heap_cells4 hr5
          have f0 : ∀ o, w5.frozen? ⟨w.heap.size + 1, o, none⟩ = false := fun o => Rw.frozen_of hr5
          have HS := hid' (set4 hr5 (.int .i64 3) (.int .i64 (Dt.plus a (Num.whole b))) (.string ⟨#[]⟩) (.slice none 0 0))
          clear b5 hr5 b4 b3
          go_wp2_with fail
          obtain ⟨hbx, hbl⟩ := HS.out
          generalize World.setCell _ _ _ = w9 at *
          obtain ⟨y0, y1, y2, y3⟩ := heap_cells4 hbx
          refine bodyPost_ret (v := .tuple #[.agg #[.int .i64 3, .int .i64 (Dt.plus a (Num.whole b)), .string ⟨#[]⟩, .slice none 0 0], .bool true]) (by simp [results, Tryz.results19, go_sem, y0, y1, y2, y3]) rfl ?_
          exact FIN.out _ _ w9 (HB5.out.trans (hbl w.heap.size (by omega))) HO.out (by unfold I64; omega) (by have := Co.plus_in a (Num.whole b); unfold I64; omega)
      by_cases h19 : op = 19
      · subst h19
        have HO := hid' (show Co.foldOp 19 a b = some (Co.leaf 3 (Dt.months a (Num.whole b))) from rfl)
        go_wp2_with fail
        go_region
        all_goals
          go_wp2_with fail
          refine ((whole_any b _).mono fun _ _ => give_ret).mono ?_
          rintro e w3 ⟨rfl, b3⟩
          go_wp2_with fail
          refine ((months_any a (Num.whole b) _).mono fun _ _ => id).mono ?_
          rintro e w4 ⟨rfl, b4⟩
          go_wp2_with fail
          refine (fold3x _ _).mono ?_
          rintro e w5 ⟨rfl, b5⟩
          have hr5 := ((Below.more b3 (Below.more b4 b5)).block (w.heap.size + 1) (lt_of_block HD.out.r)).trans HD.out.r
          have HB5 := hid' (HD.out.below.trans ((Below.more b3 (Below.more b4 b5)).mono HD.out.below.size))
          obtain ⟨e0, e1, e2, e3⟩ := heap_cells4 hr5
          have f0 : ∀ o, w5.frozen? ⟨w.heap.size + 1, o, none⟩ = false := fun o => Rw.frozen_of hr5
          have HS := hid' (set4 hr5 (.int .i64 3) (.int .i64 (Dt.months a (Num.whole b))) (.string ⟨#[]⟩) (.slice none 0 0))
          clear b5 hr5 b4 b3
          go_wp2_with fail
          obtain ⟨hbx, hbl⟩ := HS.out
          generalize World.setCell _ _ _ = w9 at *
          obtain ⟨y0, y1, y2, y3⟩ := heap_cells4 hbx
          refine bodyPost_ret (v := .tuple #[.agg #[.int .i64 3, .int .i64 (Dt.months a (Num.whole b)), .string ⟨#[]⟩, .slice none 0 0], .bool true]) (by simp [results, Tryz.results19, go_sem, y0, y1, y2, y3]) rfl ?_
          exact FIN.out _ _ w9 (HB5.out.trans (hbl w.heap.size (by omega))) HO.out (by unfold I64; omega) (by have := Co.months_in a (Num.whole b); unfold I64; omega)
      have HO := hid' (show Co.foldOp op a b = none by unfold Co.foldOp; simp [h6, h7, h8, h9, h10, h20, h21, h14, h11, h17, h12, h13, h18, h19])
      have HNF := hid' (show Co.fold t = none from HF.out.trans HO.out)
      have hr5 : wr.drew.heap[w.heap.size + 1]? = _ := HD.out.r
      obtain ⟨e0, e1, e2, e3⟩ := heap_cells4 hr5
      have f0 : ∀ o, wr.drew.frozen? ⟨w.heap.size + 1, o, none⟩ = false := fun o => Rw.frozen_of hr5
      have HS := hid' (set4 hr5 (.int .i64 op) (.int .i64 n) (.string s) (.slice p i c))
      clear hr5
      have q6 : (op == 6) = false := by simpa using h6
      have q7 : (op == 7) = false := by simpa using h7
      have q8 : (op == 8) = false := by simpa using h8
      have q9 : (op == 9) = false := by simpa using h9
      have q10 : (op == 10) = false := by simpa using h10
      have q20 : (op == 20) = false := by simpa using h20
      have q21 : (op == 21) = false := by simpa using h21
      have q14 : (op == 14) = false := by simpa using h14
      have q11 : (op == 11) = false := by simpa using h11
      have q17 : (op == 17) = false := by simpa using h17
      have q12 : (op == 12) = false := by simpa using h12
      have q13 : (op == 13) = false := by simpa using h13
      have q18 : (op == 18) = false := by simpa using h18
      have q19 : (op == 19) = false := by simpa using h19
      clear h6 h7 h8 h9 h10 h20 h21 h14 h11 h17 h12 h13 h18 h19
      go_wp2_with fail
      go_region
      all_goals
        generalize World.drew wr = wd at *
        go_wp2_with fail
        --trace_state
        obtain ⟨hbx, hbl⟩ := HS.out
        generalize World.setCell _ _ _ = w9 at *
        obtain ⟨y0, y1, y2, y3⟩ := heap_cells4 hbx
        refine bodyPost_ret (v := .tuple #[.agg #[.int .i64 op, .int .i64 n, .string s, .slice p i c], .bool false]) (by simp [results, Tryz.results19, go_sem, y0, y1, y2, y3]) rfl ?_
        have hbb := HD.out.below.trans (hbl w.heap.size (by omega))
        exact ⟨hbb, t, _, by rw [HNF.out]; rfl, (HV.out.under hbb).old, fun x h => by rw [HNF.out] at h; cases h⟩
end Go.Proofs.YtkhileablgllcaaGreatDoor
namespace Go.Proofs.YtkhileablgllcaaGreatDoor
open Go.RowKit
set_option linter.unusedVariables false
set_option linter.unusedSimpArgs false
set_option maxRecDepth 100000
/-- A kid's row, and the kid by value. -/
structure KidAt (ok : Nat → Prop) (W : World) (bl o : Nat) (k : Co.T) (op n : Int) (s : ByteArray) (p : Option Addr) (len c : Nat) : Prop where
  lt : bl < W.heap.size
  op' : k.op = op
  n' : k.n = n
  s' : k.s = s
  len' : k.ks.length = len
  x0 : W.cell? ⟨bl, o, none⟩ = some (.int .i64 op)
  x1 : W.cell? ⟨bl, o + 1, none⟩ = some (.int .i64 n)
  x2 : W.cell? ⟨bl, o + 2, none⟩ = some (.string s)
  x3 : W.cell? ⟨bl, o + 3, none⟩ = some (.slice p len c)
  val : CoreIn ok W k (.agg #[.int .i64 op, .int .i64 n, .string s, .slice p len c])
theorem KidAt.below {ok : Nat → Prop} {W W' : World} {bl o : Nat} {k : Co.T} {op n : Int} {s : ByteArray} {p : Option Addr} {len c : Nat} (h : KidAt ok W bl o k op n s p len c) (hb : Below W.heap.size W W') : KidAt ok W' bl o k op n s p len c :=
  ⟨Nat.lt_of_lt_of_le h.lt hb.size, h.op', h.n', h.s', h.len', (hb.cell (p := ⟨bl, _, none⟩) h.lt).trans h.x0, (hb.cell (p := ⟨bl, _, none⟩) h.lt).trans h.x1, (hb.cell (p := ⟨bl, _, none⟩) h.lt).trans h.x2, (hb.cell (p := ⟨bl, _, none⟩) h.lt).trans h.x3, h.val.under hb⟩
/-- The rows of a term's kids. -/
theorem open_rows {ok : Nat → Prop} {W : World} {t : Co.T} {op n : Int} {s : ByteArray} {p : Option Addr} {len c : Nat} (h : CoreIn ok W t (.agg #[.int .i64 op, .int .i64 n, .string s, .slice p len c])) (h0 : 0 < t.ks.length) :
    ∃ bl off, p = some ⟨bl, off, none⟩ ∧ ∀ i k, t.ks[i]? = some k → ∃ op n s p len c, KidAt ok W bl (off + i * 4) k op n s p len c := by
  obtain ⟨p', c', e, hc, ho, hn, hs, hk⟩ := h.open
  have e' : p = p' := by simp at e; exact e.2.2.2.1
  subst e'
  obtain ⟨k0, hk0⟩ : ∃ k, t.ks[0]? = some k := ⟨_, List.getElem?_eq_getElem h0⟩
  obtain ⟨v0, ⟨bl, off, -, -, -, -, e0, hl, -⟩, -⟩ := hk 0 k0 hk0
  subst e0
  refine ⟨bl, off, rfl, fun i k hi => ?_⟩
  obtain ⟨vk, hrow, hvk⟩ := hk i k hi
  obtain ⟨b, o, x, y, z, u, e1, hl1, hve, r0, r1, r2, r3⟩ := hrow
  simp only [Option.some.injEq, Addr.mk.injEq, and_true] at e1
  obtain ⟨rfl, rfl⟩ := e1
  obtain ⟨pk, ck, rfl, -⟩ := hvk.open
  obtain ⟨rfl, rfl, rfl, rfl⟩ : .int .i64 k.op = x ∧ .int .i64 k.n = y ∧ .string k.s = z ∧ .slice pk k.ks.length ck = u := by simpa using hve
  exact ⟨_, _, _, _, _, _, ⟨World.block_lt_of_cell? W _ r0, rfl, rfl, rfl, rfl, r0, r1, r2, r3, hvk⟩⟩
/-- A term that came in by value: its four cells under names. -/
theorem open_term {ok : Nat → Prop} {W : World} {t : Co.T} {v : Value} (h : CoreIn ok W t v) : ∃ op n s p len c, v = .agg #[.int .i64 op, .int .i64 n, .string s, .slice p len c] ∧ (t.op = op ∧ t.n = n ∧ t.s = s ∧ t.ks.length = len) := by
  obtain ⟨p, c, e, -⟩ := h.open
  exact ⟨_, _, _, p, _, c, e, rfl, rfl, rfl, rfl⟩
theorem grown4 (W : World) (b : Nat) (x y z u : Value) : W.grownBy ((((W.setCell ⟨b, 0, none⟩ x).setCell ⟨b, 1, none⟩ y).setCell ⟨b, 2, none⟩ z).setCell ⟨b, 3, none⟩ u) (some b) :=
  Rw.grown_trans (Rw.grown_trans (Rw.grown_trans (Rw.grown_set W b 0 x) (Rw.grown_set _ b 1 y)) (Rw.grown_set _ b 2 z)) (Rw.grown_set _ b 3 u)
theorem cell_heap {W W' : World} (hh : W'.heap = W.heap) {a : Addr} {v : Value} (h : W.cell? a = some v) : W'.cell? a = some v := by
  unfold World.cell? at *
  rw [hh]
  exact h
theorem Co.twice_kids {t : Co.T} (h : t.op = 6 ∨ t.op = 14 ∨ t.op = 25) (hx : t.letter ≠ 0) : ∃ k, t.ks = [k] ∧ k.letter ≠ 0 := by
  rcases h with e | e | e
  · obtain ⟨h1, -, -⟩ := Co.open_kids (t := t) (by rw [e]; decide) (by rw [e]; exact Co.want_6) hx
    obtain ⟨k, hk1, hk2, -⟩ := Co.one_kid h1
    exact ⟨k, hk1, by rw [hk2]; decide⟩
  · obtain ⟨h1, -, -⟩ := Co.open_kids (t := t) (by rw [e]; decide) (by rw [e]; exact Co.want_14) hx
    obtain ⟨k, hk1, hk2, -⟩ := Co.one_kid h1
    exact ⟨k, hk1, by rw [hk2]; decide⟩
  · obtain ⟨h1, -, -⟩ := Co.open_kids (t := t) (by rw [e]; decide) (by rw [e]; exact Co.want_25) hx
    obtain ⟨k, hk1, hk2, -⟩ := Co.one_kid h1
    exact ⟨k, hk1, by rw [hk2]; decide⟩
set_option maxHeartbeats 4000000 in
theorem optTwice_any (ok : Nat → Prop) (t : Co.T) (v : Value) (w : World) (hv : CoreIn ok w t v) (hx : t.letter ≠ 0) (h0 : 0 < t.ks.length) :
    Calls Tryz.prog 20 #[v] w (TermOut ok (Co.twice t) w) := by
  obtain ⟨op, n, s, p, ln, c, rfl, hop, hn, hs, hln⟩ := open_term hv
  have HV := hid' hv
  obtain ⟨bl, off, rfl, hrows⟩ := open_rows hv h0
  have hb0 := heap_alloc_new w (.cells #[.int .i64 op, .int .i64 n, .string s, .slice (some ⟨bl, off, none⟩) ln c] 24)
  have hr0 := heap_alloc_new (w.alloc (.cells #[.int .i64 op, .int .i64 n, .string s, .slice (some ⟨bl, off, none⟩) ln c] 24)) (.cells #[.int .i64 0, .int .i64 0, .string ⟨#[]⟩, .slice none 0 0] 24)
  simp only [World.size_alloc] at hr0
  have hB0 : Below w.heap.size w ((w.alloc (.cells #[.int .i64 op, .int .i64 n, .string s, .slice (some ⟨bl, off, none⟩) ln c] 24)).alloc (.cells #[.int .i64 0, .int .i64 0, .string ⟨#[]⟩, .slice none 0 0] 24)) := ((Below.refl w.heap.size w).alloc (Nat.le_refl _) _).alloc (by simp) _
  have hc0 := (((Below.refl _ (w.alloc (.cells #[.int .i64 op, .int .i64 n, .string s, .slice (some ⟨bl, off, none⟩) ln c] 24))).alloc (Nat.le_refl _) (.cells #[.int .i64 0, .int .i64 0, .string ⟨#[]⟩, .slice none 0 0] 24)).block w.heap.size (by simp)).trans hb0
  have j0 : (0 : Int) < (ln : Int) := by omega
  have HOP := hid' hop
  have HN := hid' hn
  have HLN := hid' hln
  have HROWS := hid' hrows
  have HX := hid' hx
  have H0 := hid' h0
  clear hb0 hop hn hs hln hrows hx h0 hv
  go_enter Tryz.func20, Tryz.ntmps20
  go_wp2_with fail
  generalize World.alloc _ _ = w1 at *
  have HB0 := hid' hB0
  have HR0 := hid' hr0
  have HC0 := hid' hc0
  obtain ⟨k, kat⟩ : ∃ k, t.ks[0]? = some k := ⟨_, List.getElem?_eq_getElem H0.out⟩
  obtain ⟨kop, kn, ks, kp, klen, kc, kH⟩ := HROWS.out 0 k kat
  have kK := hid' (kH.below hB0)
  have kV := hid' kH.val
  clear kH
  clear hr0 hB0
  obtain ⟨d0, d1, d2, d3⟩ := heap_cells4 HC0.out
  have KAT := hid' kat
  clear hc0 kat
  have kx0 := kK.out.x0
  have kx1 := kK.out.x1
  have kx2 := kK.out.x2
  have kx3 := kK.out.x3
  simp only [Nat.zero_mul, Nat.add_zero, Nat.one_mul] at kx0 kx1 kx2 kx3
  by_cases h : op = 6 ∨ op = 14 ∨ op = 25
  · obtain ⟨k', hk1, hk2⟩ : ∃ k', t.ks = [k'] ∧ k'.letter ≠ 0 := Co.twice_kids (by rw [HOP.out]; exact h) HX.out
    have ek : k = k' := by have := KAT.out; rw [hk1] at this; simpa using this.symm
    subst ek
    have eK : t.kid 0 = k := by unfold Co.T.kid; rw [KAT.out]; rfl
    by_cases hk : kop = op
    · subst hk
      obtain ⟨j, hj1, hj2⟩ : ∃ j, k.ks = [j] ∧ j.letter ≠ 0 := Co.twice_kids (by rw [kK.out.op']; exact h) hk2
      have eJ : k.kid 0 = j := by unfold Co.T.kid; rw [hj1]; rfl
      have HF := hid' (show Co.twice t = some j by unfold Co.twice; rw [eK, eJ, HOP.out, kK.out.op']; exact if_pos ⟨h, rfl⟩)
      obtain ⟨bl2, off2, ekp, hrows2⟩ := open_rows kV.out (by rw [hj1]; simp)
      obtain ⟨jop, jn, js, jp, jlen, jc, jH⟩ := hrows2 0 j (by rw [hj1]; rfl)
      subst ekp
      have jV := hid' jH.val
      have JK := hid' (jH.below HB0.out)
      have j1 : (0 : Int) < (klen : Int) := by have := kK.out.len'; rw [hj1] at this; simp at this; omega
      have jx0 := JK.out.x0
      have jx1 := JK.out.x1
      have jx2 := JK.out.x2
      have jx3 := JK.out.x3
      simp only [Nat.zero_mul, Nat.add_zero] at jx0 jx1 jx2 jx3
      clear hk1 hk2 eK hj1 hj2 eJ hrows2 jH
      rcases h with rfl | rfl | rfl
      all_goals
        go_quiet (fail)
        obtain ⟨w2, hw2⟩ : ∃ w2, w2 = w1.drewN nq := ⟨_, rfl⟩
        rw [← hw2]
        have hh : w2.heap = w1.heap := by rw [hw2, drewN_heap]
        have hB2 : Below w.heap.size w w2 := by rw [hw2]; exact Below.drewn HB0.out nq
        have hr2 := HR0.out
        have hc2 := HC0.out
        rw [← hh] at hr2 hc2
        have HB2 := hid' hB2
        have HR2 := hid' hr2
        have HC2 := hid' hc2
        clear hB2 hr2 hc2 d0 d1 d2 d3
        obtain ⟨d0, d1, d2, d3⟩ := heap_cells4 HC2.out
        replace kx0 := cell_heap hh kx0
        replace kx1 := cell_heap hh kx1
        replace kx2 := cell_heap hh kx2
        replace kx3 := cell_heap hh kx3
        replace jx0 := cell_heap hh jx0
        replace jx1 := cell_heap hh jx1
        replace jx2 := cell_heap hh jx2
        replace jx3 := cell_heap hh jx3
        have HS := hid' (set4 HR2.out (.int .i64 jop) (.int .i64 jn) (.string js) (.slice jp jlen jc))
        obtain ⟨r0, r1, r2, r3⟩ := heap_cells4 HR2.out
        have f0 : ∀ o, w2.frozen? ⟨w.heap.size + 1, o, none⟩ = false := fun o => Rw.frozen_of HR2.out
        clear hw2 hh
        go_wp2_with fail
        obtain ⟨hbx, hbl⟩ := HS.out
        generalize World.setCell _ _ _ = w9 at *
        obtain ⟨y0, y1, y2, y3⟩ := heap_cells4 hbx
        refine bodyPost_ret (v := .tuple #[.agg #[.int .i64 jop, .int .i64 jn, .string js, .slice jp jlen jc], .bool true]) (by simp [results, Tryz.results20, go_sem, y0, y1, y2, y3]) rfl ?_
        have hbb := HB2.out.trans (hbl w.heap.size (by omega))
        exact ⟨hbb, j, _, by rw [HF.out]; rfl, (jV.out.under hbb).old, fun x h => by rw [HF.out] at h; cases h; rfl⟩
    · have HF := hid' (show Co.twice t = none by unfold Co.twice; rw [eK, HOP.out, kK.out.op']; exact if_neg (fun h => hk h.2))
      clear hk1 hk2 eK
      rcases h with rfl | rfl | rfl
      · have gk := beq_false_of_ne hk
        clear hk
        go_quiet (fail)
        obtain ⟨w2, hw2⟩ : ∃ w2, w2 = w1.drewN nq := ⟨_, rfl⟩
        rw [← hw2]
        have hh : w2.heap = w1.heap := by rw [hw2, drewN_heap]
        have hB2 : Below w.heap.size w w2 := by rw [hw2]; exact Below.drewn HB0.out nq
        have hr2 := HR0.out
        have hc2 := HC0.out
        rw [← hh] at hr2 hc2
        have HB2 := hid' hB2
        have HR2 := hid' hr2
        have HC2 := hid' hc2
        clear hB2 hr2 hc2 d0 d1 d2 d3
        obtain ⟨d0, d1, d2, d3⟩ := heap_cells4 HC2.out
        have HS := hid' (set4 HR2.out (.int .i64 6) (.int .i64 n) (.string s) (.slice (some ⟨bl, off, none⟩) ln c))
        obtain ⟨r0, r1, r2, r3⟩ := heap_cells4 HR2.out
        have f0 : ∀ o, w2.frozen? ⟨w.heap.size + 1, o, none⟩ = false := fun o => Rw.frozen_of HR2.out
        clear hw2 hh
        go_wp2_with fail
        obtain ⟨hbx, hbl⟩ := HS.out
        generalize World.setCell _ _ _ = w9 at *
        obtain ⟨y0, y1, y2, y3⟩ := heap_cells4 hbx
        refine bodyPost_ret (v := .tuple #[.agg #[.int .i64 6, .int .i64 n, .string s, .slice (some ⟨bl, off, none⟩) ln c], .bool false]) (by simp [results, Tryz.results20, go_sem, y0, y1, y2, y3]) rfl ?_
        have hbb := HB2.out.trans (hbl w.heap.size (by omega))
        exact ⟨hbb, t, _, by rw [HF.out]; rfl, (HV.out.under hbb).old, fun x h => by rw [HF.out] at h; cases h⟩
      · have gk := beq_false_of_ne hk
        clear hk
        go_quiet (fail)
        obtain ⟨w2, hw2⟩ : ∃ w2, w2 = w1.drewN nq := ⟨_, rfl⟩
        rw [← hw2]
        have hh : w2.heap = w1.heap := by rw [hw2, drewN_heap]
        have hB2 : Below w.heap.size w w2 := by rw [hw2]; exact Below.drewn HB0.out nq
        have hr2 := HR0.out
        have hc2 := HC0.out
        rw [← hh] at hr2 hc2
        have HB2 := hid' hB2
        have HR2 := hid' hr2
        have HC2 := hid' hc2
        clear hB2 hr2 hc2 d0 d1 d2 d3
        obtain ⟨d0, d1, d2, d3⟩ := heap_cells4 HC2.out
        have HS := hid' (set4 HR2.out (.int .i64 14) (.int .i64 n) (.string s) (.slice (some ⟨bl, off, none⟩) ln c))
        obtain ⟨r0, r1, r2, r3⟩ := heap_cells4 HR2.out
        have f0 : ∀ o, w2.frozen? ⟨w.heap.size + 1, o, none⟩ = false := fun o => Rw.frozen_of HR2.out
        clear hw2 hh
        go_wp2_with fail
        obtain ⟨hbx, hbl⟩ := HS.out
        generalize World.setCell _ _ _ = w9 at *
        obtain ⟨y0, y1, y2, y3⟩ := heap_cells4 hbx
        refine bodyPost_ret (v := .tuple #[.agg #[.int .i64 14, .int .i64 n, .string s, .slice (some ⟨bl, off, none⟩) ln c], .bool false]) (by simp [results, Tryz.results20, go_sem, y0, y1, y2, y3]) rfl ?_
        have hbb := HB2.out.trans (hbl w.heap.size (by omega))
        exact ⟨hbb, t, _, by rw [HF.out]; rfl, (HV.out.under hbb).old, fun x h => by rw [HF.out] at h; cases h⟩
      · have gk := beq_false_of_ne hk
        clear hk
        go_quiet (fail)
        obtain ⟨w2, hw2⟩ : ∃ w2, w2 = w1.drewN nq := ⟨_, rfl⟩
        rw [← hw2]
        have hh : w2.heap = w1.heap := by rw [hw2, drewN_heap]
        have hB2 : Below w.heap.size w w2 := by rw [hw2]; exact Below.drewn HB0.out nq
        have hr2 := HR0.out
        have hc2 := HC0.out
        rw [← hh] at hr2 hc2
        have HB2 := hid' hB2
        have HR2 := hid' hr2
        have HC2 := hid' hc2
        clear hB2 hr2 hc2 d0 d1 d2 d3
        obtain ⟨d0, d1, d2, d3⟩ := heap_cells4 HC2.out
        have HS := hid' (set4 HR2.out (.int .i64 25) (.int .i64 n) (.string s) (.slice (some ⟨bl, off, none⟩) ln c))
        obtain ⟨r0, r1, r2, r3⟩ := heap_cells4 HR2.out
        have f0 : ∀ o, w2.frozen? ⟨w.heap.size + 1, o, none⟩ = false := fun o => Rw.frozen_of HR2.out
        clear hw2 hh
        go_wp2_with fail
        obtain ⟨hbx, hbl⟩ := HS.out
        generalize World.setCell _ _ _ = w9 at *
        obtain ⟨y0, y1, y2, y3⟩ := heap_cells4 hbx
        refine bodyPost_ret (v := .tuple #[.agg #[.int .i64 25, .int .i64 n, .string s, .slice (some ⟨bl, off, none⟩) ln c], .bool false]) (by simp [results, Tryz.results20, go_sem, y0, y1, y2, y3]) rfl ?_
        have hbb := HB2.out.trans (hbl w.heap.size (by omega))
        exact ⟨hbb, t, _, by rw [HF.out]; rfl, (HV.out.under hbb).old, fun x h => by rw [HF.out] at h; cases h⟩
  · have HF := hid' (show Co.twice t = none by unfold Co.twice; rw [HOP.out]; exact if_neg (fun h' => h h'.1))
    simp only [not_or] at h
    have q6 : (op == 6) = false := by simpa using h.1
    have q14 : (op == 14) = false := by simpa using h.2.1
    have q25 : (op == 25) = false := by simpa using h.2.2
    clear h
    go_quiet (fail)
    obtain ⟨w2, hw2⟩ : ∃ w2, w2 = w1.drewN nq := ⟨_, rfl⟩
    rw [← hw2]
    have hh : w2.heap = w1.heap := by rw [hw2, drewN_heap]
    have hB2 : Below w.heap.size w w2 := by rw [hw2]; exact Below.drewn HB0.out nq
    have hr2 := HR0.out
    have hc2 := HC0.out
    rw [← hh] at hr2 hc2
    have HB2 := hid' hB2
    have HR2 := hid' hr2
    have HC2 := hid' hc2
    clear hB2 hr2 hc2 d0 d1 d2 d3
    obtain ⟨d0, d1, d2, d3⟩ := heap_cells4 HC2.out
    have HS := hid' (set4 HR2.out (.int .i64 op) (.int .i64 n) (.string s) (.slice (some ⟨bl, off, none⟩) ln c))
    obtain ⟨r0, r1, r2, r3⟩ := heap_cells4 HR2.out
    have f0 : ∀ o, w2.frozen? ⟨w.heap.size + 1, o, none⟩ = false := fun o => Rw.frozen_of HR2.out
    clear hw2 hh
    go_wp2_with fail
    obtain ⟨hbx, hbl⟩ := HS.out
    generalize World.setCell _ _ _ = w9 at *
    obtain ⟨y0, y1, y2, y3⟩ := heap_cells4 hbx
    refine bodyPost_ret (v := .tuple #[.agg #[.int .i64 op, .int .i64 n, .string s, .slice (some ⟨bl, off, none⟩) ln c], .bool false]) (by simp [results, Tryz.results20, go_sem, y0, y1, y2, y3]) rfl ?_
    have hbb := HB2.out.trans (hbl w.heap.size (by omega))
    exact ⟨hbb, t, _, by rw [HF.out]; rfl, (HV.out.under hbb).old, fun x h => by rw [HF.out] at h; cases h⟩
end Go.Proofs.YtkhileablgllcaaGreatDoor
namespace Go.Proofs.YtkhileablgllcaaGreatDoor
open Go.RowKit
set_option linter.unusedVariables false
set_option linter.unusedSimpArgs false
set_option maxRecDepth 100000
set_option maxHeartbeats 4000000 in
theorem optSettled_any (ok : Nat → Prop) (t : Co.T) (v : Value) (w : World) (hv : CoreIn ok w t v) (hx : t.letter ≠ 0) (h0 : 0 < t.ks.length) :
    Calls Tryz.prog 22 #[v] w (TermOut ok (Co.settled t) w) := by
  obtain ⟨op, n, s, p, ln, c, rfl, hop, hn, hs, hln⟩ := open_term hv
  have HV := hid' hv
  obtain ⟨bl, off, rfl, hrows⟩ := open_rows hv h0
  have hb0 := heap_alloc_new w (.cells #[.int .i64 op, .int .i64 n, .string s, .slice (some ⟨bl, off, none⟩) ln c] 24)
  have hr0 := heap_alloc_new (w.alloc (.cells #[.int .i64 op, .int .i64 n, .string s, .slice (some ⟨bl, off, none⟩) ln c] 24)) (.cells #[.int .i64 0, .int .i64 0, .string ⟨#[]⟩, .slice none 0 0] 24)
  simp only [World.size_alloc] at hr0
  have hB0 : Below w.heap.size w ((w.alloc (.cells #[.int .i64 op, .int .i64 n, .string s, .slice (some ⟨bl, off, none⟩) ln c] 24)).alloc (.cells #[.int .i64 0, .int .i64 0, .string ⟨#[]⟩, .slice none 0 0] 24)) := ((Below.refl w.heap.size w).alloc (Nat.le_refl _) _).alloc (by simp) _
  have hc0 := (((Below.refl _ (w.alloc (.cells #[.int .i64 op, .int .i64 n, .string s, .slice (some ⟨bl, off, none⟩) ln c] 24))).alloc (Nat.le_refl _) (.cells #[.int .i64 0, .int .i64 0, .string ⟨#[]⟩, .slice none 0 0] 24)).block w.heap.size (by simp)).trans hb0
  have j0 : (0 : Int) < (ln : Int) := by omega
  have HOP := hid' hop
  have HN := hid' hn
  have HLN := hid' hln
  have HROWS := hid' hrows
  have HX := hid' hx
  have H0 := hid' h0
  clear hb0 hop hn hs hln hrows hx h0 hv
  go_enter Tryz.func22, Tryz.ntmps22
  go_upto_region 1 with (fail)
  generalize World.alloc _ _ = w1 at *
  have HB0 := hid' hB0
  have HR0 := hid' hr0
  have HC0 := hid' hc0
  obtain ⟨k, kat⟩ : ∃ k, t.ks[0]? = some k := ⟨_, List.getElem?_eq_getElem H0.out⟩
  obtain ⟨kop, kn, ks, kp, klen, kc, kH⟩ := HROWS.out 0 k kat
  have kK := hid' (kH.below hB0)
  have kV := hid' kH.val
  clear kH
  clear hr0 hB0
  obtain ⟨d0, d1, d2, d3⟩ := heap_cells4 HC0.out
  have KAT := hid' kat
  clear hc0 kat
  have kx0 := kK.out.x0
  have kx1 := kK.out.x1
  have kx2 := kK.out.x2
  have kx3 := kK.out.x3
  simp only [Nat.zero_mul, Nat.add_zero, Nat.one_mul] at kx0 kx1 kx2 kx3
  go_wp2_with fail
  clear d0 d1 d2 d3 kx0 kx1 kx2 kx3
  have hB1 : Below w1.heap.size w1 (w1.alloc (.cells #[.int .i64 kop, .int .i64 kn, .string ks, .slice kp klen kc] 24)) := (Below.refl _ _).alloc (Nat.le_refl _) _
  have HC1 := hid' ((hB1.block _ (lt_of_block HC0.out)).trans HC0.out)
  have HR1 := hid' ((hB1.block _ (lt_of_block HR0.out)).trans HR0.out)
  have HK1 := hid' (heap_alloc_new w1 (.cells #[.int .i64 kop, .int .i64 kn, .string ks, .slice kp klen kc] 24))
  have HB1 := hid' (HB0.out.trans (hB1.mono HB0.out.size))
  have hlt := lt_of_block HR0.out
  obtain ⟨kb, hkb⟩ : ∃ kb, kb = w1.heap.size := ⟨_, rfl⟩
  rw [← hkb] at HK1 hlt ⊢
  have HCN := hid' (show w.heap.size ≠ w.heap.size + 1 by omega)
  have HKN := hid' (show kb ≠ w.heap.size + 1 by omega)
  clear hB1 hkb
  generalize World.alloc w1 _ = w2 at *
  have eK : t.kid 0 = k := by unfold Co.T.kid; rw [KAT.out]; rfl
  have HD := hid' (show Co.settled t = if (op = 15 ∧ (kop == 2 && kn == 0) = true) ∨ (op = 16 ∧ (kop == 2 && kn == 1) = true) ∨ (op = 25 ∧ kop = 23) then some k else none by
    unfold Co.settled Co.isBool
    rw [eK, HOP.out, kK.out.op', kK.out.n'])
  clear eK
  by_cases h15 : op = 15
  · subst h15
    cases hg : (kop == 2 && kn == 0) with
    | true =>
      have HF := hid' (show Co.settled t = some k by rw [HD.out]; simp [hg])
      refine wp_region_keepQ (fun d w' => w2.grownBy w' (some (w.heap.size + 1)) ∧ w'.heap[w.heap.size + 1]? = some (.cells (bif d then #[.int .i64 kop, .int .i64 kn, .string ks, .slice kp klen kc] else #[.int .i64 0, .int .i64 0, .string ⟨#[]⟩, .slice none 0 0]) 24 (0, 0))) 27 (by kernel_rfl) (by kernel_rfl) (by kernel_rfl) (by kernel_rfl) (by decide) ⟨Rw.grown_of_below (Below.refl _ _).drew _, HR1.out⟩ ?_
      repeat (first
        | (refine wpQ_skip ?_ ?_ ?_
           · exact Option.some_ne_none _
           · rfl
           simp only [Act.put, List.setIfInBounds_toArray, List.set_cons_zero, List.set_cons_succ])
        | (refine wpQ_store ?_ ?_ ?_ ?_
           · rfl
           · rfl
           · (intro W hSw; obtain ⟨d0, d1, d2, d3⟩ := heap_cells4 (Rw.box_grown hSw.1 HCN.out HC1.out); obtain ⟨e0, e1, e2, e3⟩ := heap_cells4 (Rw.box_grown hSw.1 HKN.out HK1.out); obtain ⟨r0, r1, r2, r3⟩ := heap_cells4 hSw.2; have f0 : ∀ o, W.frozen? ⟨w.heap.size + 1, o, none⟩ = false := fun o => Rw.frozen_of hSw.2; refine ⟨((((W.setCell ⟨(w.heap.size + 1), 0, none⟩ (.int .i64 kop)).setCell ⟨(w.heap.size + 1), 1, none⟩ (.int .i64 kn)).setCell ⟨(w.heap.size + 1), 2, none⟩ (.string ks)).setCell ⟨(w.heap.size + 1), 3, none⟩ (.slice kp klen kc)), ?_, ?_⟩; (focus (first | (go_simp; done) | (go_simp; with_reducible rfl))); exact ⟨Rw.grown_trans hSw.1 (grown4 W (w.heap.size + 1) _ _ _ _), (set4 hSw.2 _ _ _ _).1⟩))
        | (apply wpQ_call 48 #[.agg #[.int .i64 kop, .int .i64 kn, .string ks, .slice kp klen kc], .int .i64 0]
           · exact Option.some_ne_none _
           · rfl
           · (intro d W hSw; obtain ⟨d0, d1, d2, d3⟩ := heap_cells4 (Rw.box_grown hSw.1 HCN.out HC1.out); obtain ⟨e0, e1, e2, e3⟩ := heap_cells4 (Rw.box_grown hSw.1 HKN.out HK1.out); go_simp; done)
           · (intro d W hSw; refine (optIsBool_any _ _ 0 _ _ _ _ W).mono ?_; rintro e w'' ⟨rfl, b⟩; exact ⟨by rw [hg], Rw.grown_trans hSw.1 (Rw.grown_of_below b _), (b.block _ (lt_of_block hSw.2)).trans hSw.2⟩)
           simp only [Act.put, List.setIfInBounds_toArray, List.set_cons_zero, List.set_cons_succ])
        | (apply wpQ_val
           · exact Option.some_ne_none _
           · rfl
           · (intro d W hSw; obtain ⟨d0, d1, d2, d3⟩ := heap_cells4 (Rw.box_grown hSw.1 HCN.out HC1.out); obtain ⟨e0, e1, e2, e3⟩ := heap_cells4 (Rw.box_grown hSw.1 HKN.out HK1.out); first | (go_simp; done) | (go_simp; with_reducible rfl))
           simp only [Act.put, List.setIfInBounds_toArray, List.set_cons_zero, List.set_cons_succ]))
      refine wpQ_nil ?_
      intro w3 hS'
      obtain ⟨hg3, hbx⟩ := hS'
      have hbb := Rw.below_grown HB1.out hg3 (by omega) HB1.out.size
      obtain ⟨y0, y1, y2, y3⟩ := heap_cells4 hbx
      have HY := hid' (And.intro y0 (And.intro y1 (And.intro y2 y3)))
      clear y0 y1 y2 y3 hbx hg3
      go_wp2_with fail
      obtain ⟨y0, y1, y2, y3⟩ := HY.out
      refine bodyPost_ret (v := .tuple #[.agg #[.int .i64 kop, .int .i64 kn, .string ks, .slice kp klen kc], .bool true]) (by simp [results, Tryz.results22, go_sem, y0, y1, y2, y3]) rfl ?_
      exact ⟨hbb, k, _, by rw [HF.out]; rfl, (kV.out.under hbb).old, fun x h => by rw [HF.out] at h; cases h; rfl⟩
    | false =>
      have HF := hid' (show Co.settled t = none by rw [HD.out]; simp [hg])
      refine wp_region_keepQ (fun d w' => w2.grownBy w' (some (w.heap.size + 1)) ∧ w'.heap[w.heap.size + 1]? = some (.cells (bif d then #[.int .i64 kop, .int .i64 kn, .string ks, .slice kp klen kc] else #[.int .i64 0, .int .i64 0, .string ⟨#[]⟩, .slice none 0 0]) 24 (0, 0))) 27 (by kernel_rfl) (by kernel_rfl) (by kernel_rfl) (by kernel_rfl) (by decide) ⟨Rw.grown_of_below (Below.refl _ _).drew _, HR1.out⟩ ?_
      repeat (first
        | (refine wpQ_skip ?_ ?_ ?_
           · exact Option.some_ne_none _
           · rfl
           simp only [Act.put, List.setIfInBounds_toArray, List.set_cons_zero, List.set_cons_succ])
        | (refine wpQ_store ?_ ?_ ?_ ?_
           · rfl
           · rfl
           · (intro W hSw; obtain ⟨d0, d1, d2, d3⟩ := heap_cells4 (Rw.box_grown hSw.1 HCN.out HC1.out); obtain ⟨e0, e1, e2, e3⟩ := heap_cells4 (Rw.box_grown hSw.1 HKN.out HK1.out); obtain ⟨r0, r1, r2, r3⟩ := heap_cells4 hSw.2; have f0 : ∀ o, W.frozen? ⟨w.heap.size + 1, o, none⟩ = false := fun o => Rw.frozen_of hSw.2; refine ⟨((((W.setCell ⟨(w.heap.size + 1), 0, none⟩ (.int .i64 kop)).setCell ⟨(w.heap.size + 1), 1, none⟩ (.int .i64 kn)).setCell ⟨(w.heap.size + 1), 2, none⟩ (.string ks)).setCell ⟨(w.heap.size + 1), 3, none⟩ (.slice kp klen kc)), ?_, ?_⟩; (focus (first | (go_simp; done) | (go_simp; with_reducible rfl))); exact ⟨Rw.grown_trans hSw.1 (grown4 W (w.heap.size + 1) _ _ _ _), (set4 hSw.2 _ _ _ _).1⟩))
        | (apply wpQ_call 48 #[.agg #[.int .i64 kop, .int .i64 kn, .string ks, .slice kp klen kc], .int .i64 0]
           · exact Option.some_ne_none _
           · rfl
           · (intro d W hSw; obtain ⟨d0, d1, d2, d3⟩ := heap_cells4 (Rw.box_grown hSw.1 HCN.out HC1.out); obtain ⟨e0, e1, e2, e3⟩ := heap_cells4 (Rw.box_grown hSw.1 HKN.out HK1.out); go_simp; done)
           · (intro d W hSw; refine (optIsBool_any _ _ 0 _ _ _ _ W).mono ?_; rintro e w'' ⟨rfl, b⟩; exact ⟨by rw [hg], Rw.grown_trans hSw.1 (Rw.grown_of_below b _), (b.block _ (lt_of_block hSw.2)).trans hSw.2⟩)
           simp only [Act.put, List.setIfInBounds_toArray, List.set_cons_zero, List.set_cons_succ])
        | (apply wpQ_val
           · exact Option.some_ne_none _
           · rfl
           · (intro d W hSw; obtain ⟨d0, d1, d2, d3⟩ := heap_cells4 (Rw.box_grown hSw.1 HCN.out HC1.out); obtain ⟨e0, e1, e2, e3⟩ := heap_cells4 (Rw.box_grown hSw.1 HKN.out HK1.out); first | (go_simp; done) | (go_simp; with_reducible rfl))
           simp only [Act.put, List.setIfInBounds_toArray, List.set_cons_zero, List.set_cons_succ]))
      refine wpQ_nil ?_
      intro w3 hS'
      obtain ⟨hg3, hbx⟩ := hS'
      have hbb := Rw.below_grown HB1.out hg3 (by omega) HB1.out.size
      obtain ⟨y0, y1, y2, y3⟩ := heap_cells4 hbx
      have HY := hid' (And.intro y0 (And.intro y1 (And.intro y2 y3)))
      clear y0 y1 y2 y3 hbx hg3
      go_wp2_with fail
      obtain ⟨y0, y1, y2, y3⟩ := HY.out
      refine bodyPost_ret (v := .tuple #[.agg #[.int .i64 kop, .int .i64 kn, .string ks, .slice kp klen kc], .bool false]) (by simp [results, Tryz.results22, go_sem, y0, y1, y2, y3]) rfl ?_
      exact ⟨hbb, k, _, by rw [HF.out]; rfl, (kV.out.under hbb).old, fun x h => by rw [HF.out] at h; cases h⟩
  by_cases h16 : op = 16
  · subst h16
    cases hg : (kop == 2 && kn == 1) with
    | true =>
      have HF := hid' (show Co.settled t = some k by rw [HD.out]; simp [hg])
      refine wp_region_keepQ (fun d w' => w2.grownBy w' (some (w.heap.size + 1)) ∧ w'.heap[w.heap.size + 1]? = some (.cells (bif d then #[.int .i64 kop, .int .i64 kn, .string ks, .slice kp klen kc] else #[.int .i64 0, .int .i64 0, .string ⟨#[]⟩, .slice none 0 0]) 24 (0, 0))) 27 (by kernel_rfl) (by kernel_rfl) (by kernel_rfl) (by kernel_rfl) (by decide) ⟨Rw.grown_of_below (Below.refl _ _).drew _, HR1.out⟩ ?_
      repeat (first
        | (refine wpQ_skip ?_ ?_ ?_
           · exact Option.some_ne_none _
           · rfl
           simp only [Act.put, List.setIfInBounds_toArray, List.set_cons_zero, List.set_cons_succ])
        | (refine wpQ_store ?_ ?_ ?_ ?_
           · rfl
           · rfl
           · (intro W hSw; obtain ⟨d0, d1, d2, d3⟩ := heap_cells4 (Rw.box_grown hSw.1 HCN.out HC1.out); obtain ⟨e0, e1, e2, e3⟩ := heap_cells4 (Rw.box_grown hSw.1 HKN.out HK1.out); obtain ⟨r0, r1, r2, r3⟩ := heap_cells4 hSw.2; have f0 : ∀ o, W.frozen? ⟨w.heap.size + 1, o, none⟩ = false := fun o => Rw.frozen_of hSw.2; refine ⟨((((W.setCell ⟨(w.heap.size + 1), 0, none⟩ (.int .i64 kop)).setCell ⟨(w.heap.size + 1), 1, none⟩ (.int .i64 kn)).setCell ⟨(w.heap.size + 1), 2, none⟩ (.string ks)).setCell ⟨(w.heap.size + 1), 3, none⟩ (.slice kp klen kc)), ?_, ?_⟩; (focus (first | (go_simp; done) | (go_simp; with_reducible rfl))); exact ⟨Rw.grown_trans hSw.1 (grown4 W (w.heap.size + 1) _ _ _ _), (set4 hSw.2 _ _ _ _).1⟩))
        | (apply wpQ_call 48 #[.agg #[.int .i64 kop, .int .i64 kn, .string ks, .slice kp klen kc], .int .i64 1]
           · exact Option.some_ne_none _
           · rfl
           · (intro d W hSw; obtain ⟨d0, d1, d2, d3⟩ := heap_cells4 (Rw.box_grown hSw.1 HCN.out HC1.out); obtain ⟨e0, e1, e2, e3⟩ := heap_cells4 (Rw.box_grown hSw.1 HKN.out HK1.out); go_simp; done)
           · (intro d W hSw; refine (optIsBool_any _ _ 1 _ _ _ _ W).mono ?_; rintro e w'' ⟨rfl, b⟩; exact ⟨by rw [hg], Rw.grown_trans hSw.1 (Rw.grown_of_below b _), (b.block _ (lt_of_block hSw.2)).trans hSw.2⟩)
           simp only [Act.put, List.setIfInBounds_toArray, List.set_cons_zero, List.set_cons_succ])
        | (apply wpQ_val
           · exact Option.some_ne_none _
           · rfl
           · (intro d W hSw; obtain ⟨d0, d1, d2, d3⟩ := heap_cells4 (Rw.box_grown hSw.1 HCN.out HC1.out); obtain ⟨e0, e1, e2, e3⟩ := heap_cells4 (Rw.box_grown hSw.1 HKN.out HK1.out); first | (go_simp; done) | (go_simp; with_reducible rfl))
           simp only [Act.put, List.setIfInBounds_toArray, List.set_cons_zero, List.set_cons_succ]))
      refine wpQ_nil ?_
      intro w3 hS'
      obtain ⟨hg3, hbx⟩ := hS'
      have hbb := Rw.below_grown HB1.out hg3 (by omega) HB1.out.size
      obtain ⟨y0, y1, y2, y3⟩ := heap_cells4 hbx
      have HY := hid' (And.intro y0 (And.intro y1 (And.intro y2 y3)))
      clear y0 y1 y2 y3 hbx hg3
      go_wp2_with fail
      obtain ⟨y0, y1, y2, y3⟩ := HY.out
      refine bodyPost_ret (v := .tuple #[.agg #[.int .i64 kop, .int .i64 kn, .string ks, .slice kp klen kc], .bool true]) (by simp [results, Tryz.results22, go_sem, y0, y1, y2, y3]) rfl ?_
      exact ⟨hbb, k, _, by rw [HF.out]; rfl, (kV.out.under hbb).old, fun x h => by rw [HF.out] at h; cases h; rfl⟩
    | false =>
      have HF := hid' (show Co.settled t = none by rw [HD.out]; simp [hg])
      refine wp_region_keepQ (fun d w' => w2.grownBy w' (some (w.heap.size + 1)) ∧ w'.heap[w.heap.size + 1]? = some (.cells (bif d then #[.int .i64 kop, .int .i64 kn, .string ks, .slice kp klen kc] else #[.int .i64 0, .int .i64 0, .string ⟨#[]⟩, .slice none 0 0]) 24 (0, 0))) 27 (by kernel_rfl) (by kernel_rfl) (by kernel_rfl) (by kernel_rfl) (by decide) ⟨Rw.grown_of_below (Below.refl _ _).drew _, HR1.out⟩ ?_
      repeat (first
        | (refine wpQ_skip ?_ ?_ ?_
           · exact Option.some_ne_none _
           · rfl
           simp only [Act.put, List.setIfInBounds_toArray, List.set_cons_zero, List.set_cons_succ])
        | (refine wpQ_store ?_ ?_ ?_ ?_
           · rfl
           · rfl
           · (intro W hSw; obtain ⟨d0, d1, d2, d3⟩ := heap_cells4 (Rw.box_grown hSw.1 HCN.out HC1.out); obtain ⟨e0, e1, e2, e3⟩ := heap_cells4 (Rw.box_grown hSw.1 HKN.out HK1.out); obtain ⟨r0, r1, r2, r3⟩ := heap_cells4 hSw.2; have f0 : ∀ o, W.frozen? ⟨w.heap.size + 1, o, none⟩ = false := fun o => Rw.frozen_of hSw.2; refine ⟨((((W.setCell ⟨(w.heap.size + 1), 0, none⟩ (.int .i64 kop)).setCell ⟨(w.heap.size + 1), 1, none⟩ (.int .i64 kn)).setCell ⟨(w.heap.size + 1), 2, none⟩ (.string ks)).setCell ⟨(w.heap.size + 1), 3, none⟩ (.slice kp klen kc)), ?_, ?_⟩; (focus (first | (go_simp; done) | (go_simp; with_reducible rfl))); exact ⟨Rw.grown_trans hSw.1 (grown4 W (w.heap.size + 1) _ _ _ _), (set4 hSw.2 _ _ _ _).1⟩))
        | (apply wpQ_call 48 #[.agg #[.int .i64 kop, .int .i64 kn, .string ks, .slice kp klen kc], .int .i64 1]
           · exact Option.some_ne_none _
           · rfl
           · (intro d W hSw; obtain ⟨d0, d1, d2, d3⟩ := heap_cells4 (Rw.box_grown hSw.1 HCN.out HC1.out); obtain ⟨e0, e1, e2, e3⟩ := heap_cells4 (Rw.box_grown hSw.1 HKN.out HK1.out); go_simp; done)
           · (intro d W hSw; refine (optIsBool_any _ _ 1 _ _ _ _ W).mono ?_; rintro e w'' ⟨rfl, b⟩; exact ⟨by rw [hg], Rw.grown_trans hSw.1 (Rw.grown_of_below b _), (b.block _ (lt_of_block hSw.2)).trans hSw.2⟩)
           simp only [Act.put, List.setIfInBounds_toArray, List.set_cons_zero, List.set_cons_succ])
        | (apply wpQ_val
           · exact Option.some_ne_none _
           · rfl
           · (intro d W hSw; obtain ⟨d0, d1, d2, d3⟩ := heap_cells4 (Rw.box_grown hSw.1 HCN.out HC1.out); obtain ⟨e0, e1, e2, e3⟩ := heap_cells4 (Rw.box_grown hSw.1 HKN.out HK1.out); first | (go_simp; done) | (go_simp; with_reducible rfl))
           simp only [Act.put, List.setIfInBounds_toArray, List.set_cons_zero, List.set_cons_succ]))
      refine wpQ_nil ?_
      intro w3 hS'
      obtain ⟨hg3, hbx⟩ := hS'
      have hbb := Rw.below_grown HB1.out hg3 (by omega) HB1.out.size
      obtain ⟨y0, y1, y2, y3⟩ := heap_cells4 hbx
      have HY := hid' (And.intro y0 (And.intro y1 (And.intro y2 y3)))
      clear y0 y1 y2 y3 hbx hg3
      go_wp2_with fail
      obtain ⟨y0, y1, y2, y3⟩ := HY.out
      refine bodyPost_ret (v := .tuple #[.agg #[.int .i64 kop, .int .i64 kn, .string ks, .slice kp klen kc], .bool false]) (by simp [results, Tryz.results22, go_sem, y0, y1, y2, y3]) rfl ?_
      exact ⟨hbb, k, _, by rw [HF.out]; rfl, (kV.out.under hbb).old, fun x h => by rw [HF.out] at h; cases h⟩
  by_cases h25 : op = 25
  · subst h25
    by_cases h23 : kop = 23
    · have HF := hid' (show Co.settled t = some k by rw [HD.out]; simp [h23])
      subst h23
      refine wp_region_keepQ (fun d w' => w2.grownBy w' (some (w.heap.size + 1)) ∧ w'.heap[w.heap.size + 1]? = some (.cells (bif d then #[.int .i64 23, .int .i64 kn, .string ks, .slice kp klen kc] else #[.int .i64 0, .int .i64 0, .string ⟨#[]⟩, .slice none 0 0]) 24 (0, 0))) 27 (by kernel_rfl) (by kernel_rfl) (by kernel_rfl) (by kernel_rfl) (by decide) ⟨Rw.grown_of_below (Below.refl _ _).drew _, HR1.out⟩ ?_
      repeat (first
        | (refine wpQ_skip ?_ ?_ ?_
           · exact Option.some_ne_none _
           · rfl
           simp only [Act.put, List.setIfInBounds_toArray, List.set_cons_zero, List.set_cons_succ])
        | (refine wpQ_store ?_ ?_ ?_ ?_
           · rfl
           · rfl
           · (intro W hSw; obtain ⟨d0, d1, d2, d3⟩ := heap_cells4 (Rw.box_grown hSw.1 HCN.out HC1.out); obtain ⟨e0, e1, e2, e3⟩ := heap_cells4 (Rw.box_grown hSw.1 HKN.out HK1.out); obtain ⟨r0, r1, r2, r3⟩ := heap_cells4 hSw.2; have f0 : ∀ o, W.frozen? ⟨w.heap.size + 1, o, none⟩ = false := fun o => Rw.frozen_of hSw.2; refine ⟨((((W.setCell ⟨(w.heap.size + 1), 0, none⟩ (.int .i64 23)).setCell ⟨(w.heap.size + 1), 1, none⟩ (.int .i64 kn)).setCell ⟨(w.heap.size + 1), 2, none⟩ (.string ks)).setCell ⟨(w.heap.size + 1), 3, none⟩ (.slice kp klen kc)), ?_, ?_⟩; (focus (first | (go_simp; done) | (go_simp; with_reducible rfl))); exact ⟨Rw.grown_trans hSw.1 (grown4 W (w.heap.size + 1) _ _ _ _), (set4 hSw.2 _ _ _ _).1⟩))
        | (apply wpQ_val
           · exact Option.some_ne_none _
           · rfl
           · (intro d W hSw; obtain ⟨d0, d1, d2, d3⟩ := heap_cells4 (Rw.box_grown hSw.1 HCN.out HC1.out); obtain ⟨e0, e1, e2, e3⟩ := heap_cells4 (Rw.box_grown hSw.1 HKN.out HK1.out); first | (go_simp; done) | (go_simp; with_reducible rfl))
           simp only [Act.put, List.setIfInBounds_toArray, List.set_cons_zero, List.set_cons_succ]))
      refine wpQ_nil ?_
      intro w3 hS'
      obtain ⟨hg3, hbx⟩ := hS'
      have hbb := Rw.below_grown HB1.out hg3 (by omega) HB1.out.size
      obtain ⟨y0, y1, y2, y3⟩ := heap_cells4 hbx
      have HY := hid' (And.intro y0 (And.intro y1 (And.intro y2 y3)))
      clear y0 y1 y2 y3 hbx hg3
      go_wp2_with fail
      obtain ⟨y0, y1, y2, y3⟩ := HY.out
      refine bodyPost_ret (v := .tuple #[.agg #[.int .i64 23, .int .i64 kn, .string ks, .slice kp klen kc], .bool true]) (by simp [results, Tryz.results22, go_sem, y0, y1, y2, y3]) rfl ?_
      exact ⟨hbb, k, _, by rw [HF.out]; rfl, (kV.out.under hbb).old, fun x h => by rw [HF.out] at h; cases h; rfl⟩
    · have HF := hid' (show Co.settled t = none by rw [HD.out]; simp [h23])
      have g23 : (kop == 23) = false := by simpa using h23
      clear h23
      refine wp_region_keepQ (fun d w' => w2.grownBy w' (some (w.heap.size + 1)) ∧ w'.heap[w.heap.size + 1]? = some (.cells (bif d then #[.int .i64 kop, .int .i64 kn, .string ks, .slice kp klen kc] else #[.int .i64 0, .int .i64 0, .string ⟨#[]⟩, .slice none 0 0]) 24 (0, 0))) 27 (by kernel_rfl) (by kernel_rfl) (by kernel_rfl) (by kernel_rfl) (by decide) ⟨Rw.grown_of_below (Below.refl _ _).drew _, HR1.out⟩ ?_
      repeat (first
        | (refine wpQ_skip ?_ ?_ ?_
           · exact Option.some_ne_none _
           · rfl
           simp only [Act.put, List.setIfInBounds_toArray, List.set_cons_zero, List.set_cons_succ])
        | (refine wpQ_store ?_ ?_ ?_ ?_
           · rfl
           · rfl
           · (intro W hSw; obtain ⟨d0, d1, d2, d3⟩ := heap_cells4 (Rw.box_grown hSw.1 HCN.out HC1.out); obtain ⟨e0, e1, e2, e3⟩ := heap_cells4 (Rw.box_grown hSw.1 HKN.out HK1.out); obtain ⟨r0, r1, r2, r3⟩ := heap_cells4 hSw.2; have f0 : ∀ o, W.frozen? ⟨w.heap.size + 1, o, none⟩ = false := fun o => Rw.frozen_of hSw.2; refine ⟨((((W.setCell ⟨(w.heap.size + 1), 0, none⟩ (.int .i64 kop)).setCell ⟨(w.heap.size + 1), 1, none⟩ (.int .i64 kn)).setCell ⟨(w.heap.size + 1), 2, none⟩ (.string ks)).setCell ⟨(w.heap.size + 1), 3, none⟩ (.slice kp klen kc)), ?_, ?_⟩; (focus (first | (go_simp; done) | (go_simp; with_reducible rfl))); exact ⟨Rw.grown_trans hSw.1 (grown4 W (w.heap.size + 1) _ _ _ _), (set4 hSw.2 _ _ _ _).1⟩))
        | (apply wpQ_val
           · exact Option.some_ne_none _
           · rfl
           · (intro d W hSw; obtain ⟨d0, d1, d2, d3⟩ := heap_cells4 (Rw.box_grown hSw.1 HCN.out HC1.out); obtain ⟨e0, e1, e2, e3⟩ := heap_cells4 (Rw.box_grown hSw.1 HKN.out HK1.out); first | (go_simp; done) | (go_simp; with_reducible rfl))
           simp only [Act.put, List.setIfInBounds_toArray, List.set_cons_zero, List.set_cons_succ]))
      refine wpQ_nil ?_
      intro w3 hS'
      obtain ⟨hg3, hbx⟩ := hS'
      have hbb := Rw.below_grown HB1.out hg3 (by omega) HB1.out.size
      obtain ⟨y0, y1, y2, y3⟩ := heap_cells4 hbx
      have HY := hid' (And.intro y0 (And.intro y1 (And.intro y2 y3)))
      clear y0 y1 y2 y3 hbx hg3
      go_wp2_with fail
      obtain ⟨y0, y1, y2, y3⟩ := HY.out
      refine bodyPost_ret (v := .tuple #[.agg #[.int .i64 kop, .int .i64 kn, .string ks, .slice kp klen kc], .bool false]) (by simp [results, Tryz.results22, go_sem, y0, y1, y2, y3]) rfl ?_
      exact ⟨hbb, k, _, by rw [HF.out]; rfl, (kV.out.under hbb).old, fun x h => by rw [HF.out] at h; cases h⟩
  · have HF := hid' (show Co.settled t = none by rw [HD.out]; simp [h15, h16, h25])
    have g15 : (op == 15) = false := by simpa using h15
    have g16 : (op == 16) = false := by simpa using h16
    have g25 : (op == 25) = false := by simpa using h25
    clear h15 h16 h25
    refine wp_region_keepQ (fun d w' => w2.grownBy w' (some (w.heap.size + 1)) ∧ w'.heap[w.heap.size + 1]? = some (.cells (bif d then #[.int .i64 kop, .int .i64 kn, .string ks, .slice kp klen kc] else #[.int .i64 0, .int .i64 0, .string ⟨#[]⟩, .slice none 0 0]) 24 (0, 0))) 27 (by kernel_rfl) (by kernel_rfl) (by kernel_rfl) (by kernel_rfl) (by decide) ⟨Rw.grown_of_below (Below.refl _ _).drew _, HR1.out⟩ ?_
    repeat (first
      | (refine wpQ_skip ?_ ?_ ?_
         · exact Option.some_ne_none _
         · rfl
         simp only [Act.put, List.setIfInBounds_toArray, List.set_cons_zero, List.set_cons_succ])
      | (refine wpQ_store ?_ ?_ ?_ ?_
         · rfl
         · rfl
         · (intro W hSw; obtain ⟨d0, d1, d2, d3⟩ := heap_cells4 (Rw.box_grown hSw.1 HCN.out HC1.out); obtain ⟨e0, e1, e2, e3⟩ := heap_cells4 (Rw.box_grown hSw.1 HKN.out HK1.out); obtain ⟨r0, r1, r2, r3⟩ := heap_cells4 hSw.2; have f0 : ∀ o, W.frozen? ⟨w.heap.size + 1, o, none⟩ = false := fun o => Rw.frozen_of hSw.2; refine ⟨((((W.setCell ⟨(w.heap.size + 1), 0, none⟩ (.int .i64 kop)).setCell ⟨(w.heap.size + 1), 1, none⟩ (.int .i64 kn)).setCell ⟨(w.heap.size + 1), 2, none⟩ (.string ks)).setCell ⟨(w.heap.size + 1), 3, none⟩ (.slice kp klen kc)), ?_, ?_⟩; (focus (first | (go_simp; done) | (go_simp; with_reducible rfl))); exact ⟨Rw.grown_trans hSw.1 (grown4 W (w.heap.size + 1) _ _ _ _), (set4 hSw.2 _ _ _ _).1⟩))
      | (apply wpQ_val
         · exact Option.some_ne_none _
         · rfl
         · (intro d W hSw; obtain ⟨d0, d1, d2, d3⟩ := heap_cells4 (Rw.box_grown hSw.1 HCN.out HC1.out); obtain ⟨e0, e1, e2, e3⟩ := heap_cells4 (Rw.box_grown hSw.1 HKN.out HK1.out); first | (go_simp; done) | (go_simp; with_reducible rfl))
         simp only [Act.put, List.setIfInBounds_toArray, List.set_cons_zero, List.set_cons_succ]))
    refine wpQ_nil ?_
    intro w3 hS'
    obtain ⟨hg3, hbx⟩ := hS'
    have hbb := Rw.below_grown HB1.out hg3 (by omega) HB1.out.size
    obtain ⟨y0, y1, y2, y3⟩ := heap_cells4 hbx
    have HY := hid' (And.intro y0 (And.intro y1 (And.intro y2 y3)))
    clear y0 y1 y2 y3 hbx hg3
    go_wp2_with fail
    obtain ⟨y0, y1, y2, y3⟩ := HY.out
    refine bodyPost_ret (v := .tuple #[.agg #[.int .i64 kop, .int .i64 kn, .string ks, .slice kp klen kc], .bool false]) (by simp [results, Tryz.results22, go_sem, y0, y1, y2, y3]) rfl ?_
    exact ⟨hbb, k, _, by rw [HF.out]; rfl, (kV.out.under hbb).old, fun x h => by rw [HF.out] at h; cases h⟩
end Go.Proofs.YtkhileablgllcaaGreatDoor
namespace Go.Proofs.YtkhileablgllcaaGreatDoor
open Go.RowKit
set_option linter.unusedVariables false
set_option linter.unusedSimpArgs false
set_option maxRecDepth 100000
theorem grown_cell {W W' : World} {b o B : Nat} {v : Value} (g : W.grownBy W' (some B)) (hne : b ≠ B) (h : W.cell? ⟨b, o, none⟩ = some v) : W'.cell? ⟨b, o, none⟩ = some v := by
  have hl := World.block_lt_of_cell? W _ h
  have hg := g.block b hl (fun e => by cases e; exact hne rfl)
  unfold World.cell? at *
  simp only at *
  rw [hg]
  exact h
theorem later_value {ok : Nat → Prop} {W : World} {t k : Co.T} {op n : Int} {s : ByteArray} {p : Option Addr} {len c : Nat} {kop kn : Int} {ks : ByteArray} {kp : Option Addr} {klen kc : Nat} (ht : CoreIn ok W t (.agg #[.int .i64 op, .int .i64 n, .string s, .slice p len c]))
    (hk : CoreIn ok W k (.agg #[.int .i64 kop, .int .i64 kn, .string ks, .slice kp klen kc])) (hl : k.ks.length = klen) (hn : t.n = n) : CoreIn ok W (.mk 29 (max n kn) ⟨#[]⟩ k.ks) (.agg #[.int .i64 29, .int .i64 (max n kn), .string ⟨#[]⟩, .slice kp klen kc]) := by
  obtain ⟨p', c', e, hc, ho, hn', hs, hkk⟩ := hk.open
  obtain ⟨_, _, _, _, _, htn, _, _⟩ := ht.open
  have e1 : kn = k.n ∧ kp = p' ∧ kc = c' := by simp at e; exact ⟨e.2.1, e.2.2.2.1, e.2.2.2.2.2⟩
  obtain ⟨rfl, rfl, rfl⟩ := e1
  subst hl
  refine CoreIn.close hc (by unfold I64; omega) ?_ (by decide) hkk
  rw [hn] at htn
  unfold I64 at *
  omega
set_option maxHeartbeats 4000000 in
theorem optLater_any (ok : Nat → Prop) (t : Co.T) (v : Value) (w : World) (hv : CoreIn ok w t v) (hx : t.letter ≠ 0) (h0 : 0 < t.ks.length) :
    Calls Tryz.prog 23 #[v] w (TermOut ok (Co.later t) w) := by
  obtain ⟨op, n, s, p, ln, c, rfl, hop, hn, hs, hln⟩ := open_term hv
  have HV := hid' hv
  obtain ⟨bl, off, rfl, hrows⟩ := open_rows hv h0
  have hb0 := heap_alloc_new w (.cells #[.int .i64 op, .int .i64 n, .string s, .slice (some ⟨bl, off, none⟩) ln c] 24)
  have hr0 := heap_alloc_new (w.alloc (.cells #[.int .i64 op, .int .i64 n, .string s, .slice (some ⟨bl, off, none⟩) ln c] 24)) (.cells #[.int .i64 0, .int .i64 0, .string ⟨#[]⟩, .slice none 0 0] 24)
  simp only [World.size_alloc] at hr0
  have hB0 : Below w.heap.size w ((w.alloc (.cells #[.int .i64 op, .int .i64 n, .string s, .slice (some ⟨bl, off, none⟩) ln c] 24)).alloc (.cells #[.int .i64 0, .int .i64 0, .string ⟨#[]⟩, .slice none 0 0] 24)) := ((Below.refl w.heap.size w).alloc (Nat.le_refl _) _).alloc (by simp) _
  have hc0 := (((Below.refl _ (w.alloc (.cells #[.int .i64 op, .int .i64 n, .string s, .slice (some ⟨bl, off, none⟩) ln c] 24))).alloc (Nat.le_refl _) (.cells #[.int .i64 0, .int .i64 0, .string ⟨#[]⟩, .slice none 0 0] 24)).block w.heap.size (by simp)).trans hb0
  have j0 : (0 : Int) < (ln : Int) := by omega
  have HOP := hid' hop
  have HN := hid' hn
  have HLN := hid' hln
  have HROWS := hid' hrows
  have HX := hid' hx
  have H0 := hid' h0
  clear hb0 hop hn hs hln hrows hx h0 hv
  go_enter Tryz.func23, Tryz.ntmps23
  go_upto_region 1 with (fail)
  generalize World.alloc _ _ = w1 at *
  have HB0 := hid' hB0
  have HR0 := hid' hr0
  have HC0 := hid' hc0
  obtain ⟨k, kat⟩ : ∃ k, t.ks[0]? = some k := ⟨_, List.getElem?_eq_getElem H0.out⟩
  obtain ⟨kop, kn, ks, kp, klen, kc, kH⟩ := HROWS.out 0 k kat
  have kK := hid' (kH.below hB0)
  have kV := hid' kH.val
  have kLT := hid' kH.lt
  clear kH
  clear hr0 hB0
  obtain ⟨d0, d1, d2, d3⟩ := heap_cells4 HC0.out
  have KAT := hid' kat
  clear hc0 kat
  have kx0 := kK.out.x0
  have kx1 := kK.out.x1
  have kx2 := kK.out.x2
  have kx3 := kK.out.x3
  simp only [Nat.zero_mul, Nat.add_zero, Nat.one_mul] at kx0 kx1 kx2 kx3
  have eK : t.kid 0 = k := by unfold Co.T.kid; rw [KAT.out]; rfl
  have HD := hid' (show Co.later t = if op = 29 ∧ kop = 29 then some (.mk 29 (max n kn) ⟨#[]⟩ k.ks) else none by
    unfold Co.later
    rw [eK, HOP.out, HN.out, kK.out.op', kK.out.n'])
  clear eK
  by_cases h : op = 29
  · subst h
    by_cases hk : kop = 29
    · subst hk
      have HF := hid' (show Co.later t = some (.mk 29 (max n kn) ⟨#[]⟩ k.ks) by rw [HD.out]; exact if_pos ⟨rfl, rfl⟩)
      go_upto_region 3 with (fail)
      have HKX := hid' (And.intro kK.out.lt (And.intro kx1 kx3))
      clear d0 d1 d2 d3 kx0 kx1 kx2 kx3
      have HCN := hid' (show w.heap.size ≠ w.heap.size + 1 by omega)
      have HBN := hid' (show bl ≠ w.heap.size + 1 by have h5 := kLT.out; omega)
      refine wp_region_keepQ (fun d w' => w1.grownBy w' (some (w.heap.size + 1)) ∧ w'.heap[w.heap.size + 1]? = some (.cells (bif d then #[.int .i64 29, .int .i64 (max n kn), .string ⟨#[]⟩, .slice kp klen kc] else #[.int .i64 0, .int .i64 0, .string ⟨#[]⟩, .slice none 0 0]) 24 (0, 0))) 14 (by kernel_rfl) (by kernel_rfl) (by kernel_rfl) (by kernel_rfl) (by decide) ⟨Rw.grown_of_below (Below.refl _ _).drew _, HR0.out⟩ ?_
      repeat (first
        | (refine wpQ_skip ?_ ?_ ?_
           · exact Option.some_ne_none _
           · rfl
           simp only [Act.put, List.setIfInBounds_toArray, List.set_cons_zero, List.set_cons_succ])
        | (refine wpQ_store ?_ ?_ ?_ ?_
           · rfl
           · rfl
           · (intro W hSw; have j0n : 0 < ln := (by omega); obtain ⟨d0, d1, d2, d3⟩ := heap_cells4 (Rw.box_grown hSw.1 HCN.out HC0.out); have kx1 := grown_cell hSw.1 HBN.out HKX.out.2.1; have kx3 := grown_cell hSw.1 HBN.out HKX.out.2.2; obtain ⟨r0, r1, r2, r3⟩ := heap_cells4 hSw.2; have f0 : ∀ o, W.frozen? ⟨w.heap.size + 1, o, none⟩ = false := fun o => Rw.frozen_of hSw.2; refine ⟨((((W.setCell ⟨(w.heap.size + 1), 0, none⟩ (.int .i64 29)).setCell ⟨(w.heap.size + 1), 1, none⟩ (.int .i64 (max n kn))).setCell ⟨(w.heap.size + 1), 2, none⟩ (.string ⟨#[]⟩)).setCell ⟨(w.heap.size + 1), 3, none⟩ (.slice kp klen kc)), ?_, ?_⟩; (focus (first | (go_simp; done) | (go_simp; with_reducible rfl))); exact ⟨Rw.grown_trans hSw.1 (grown4 W (w.heap.size + 1) _ _ _ _), (set4 hSw.2 _ _ _ _).1⟩))
        | (apply wpQ_val
           · exact Option.some_ne_none _
           · rfl
           · (intro d W hSw; have j0n : 0 < ln := (by omega); obtain ⟨d0, d1, d2, d3⟩ := heap_cells4 (Rw.box_grown hSw.1 HCN.out HC0.out); have kx1 := grown_cell hSw.1 HBN.out HKX.out.2.1; have kx3 := grown_cell hSw.1 HBN.out HKX.out.2.2; first | (go_simp; done) | (go_simp; with_reducible rfl))
           simp only [Act.put, List.setIfInBounds_toArray, List.set_cons_zero, List.set_cons_succ]))
      refine wpQ_nil ?_
      intro w3 hS'
      obtain ⟨hg3, hbx⟩ := hS'
      have hbb := Rw.below_grown HB0.out hg3 (by omega) HB0.out.size
      obtain ⟨y0, y1, y2, y3⟩ := heap_cells4 hbx
      have HY := hid' (And.intro y0 (And.intro y1 (And.intro y2 y3)))
      clear y0 y1 y2 y3 hbx hg3
      go_wp2_with fail
      obtain ⟨y0, y1, y2, y3⟩ := HY.out
      refine bodyPost_ret (v := .tuple #[.agg #[.int .i64 29, .int .i64 (max n kn), .string ⟨#[]⟩, .slice kp klen kc], .bool true]) (by simp [results, Tryz.results23, go_sem, y0, y1, y2, y3]) rfl ?_
      refine ⟨hbb, _, _, by rw [HF.out]; rfl, ?_, fun x h => by rw [HF.out] at h; cases h; rfl⟩
      exact ((later_value HV.out kV.out kK.out.len' HN.out).under hbb).old
    · have HF := hid' (show Co.later t = none by rw [HD.out]; exact if_neg (fun h => hk h.2))
      have gk : (kop != 29) = true := by simpa using hk
      clear hk
      have HS := hid' (set4 HR0.out (.int .i64 29) (.int .i64 n) (.string s) (.slice (some ⟨bl, off, none⟩) ln c))
      obtain ⟨r0, r1, r2, r3⟩ := heap_cells4 HR0.out
      have f0 : ∀ o, w1.frozen? ⟨w.heap.size + 1, o, none⟩ = false := fun o => Rw.frozen_of HR0.out
      go_wp2_with fail
      obtain ⟨hbx, hbl⟩ := HS.out
      generalize World.setCell _ _ _ = w9 at *
      obtain ⟨y0, y1, y2, y3⟩ := heap_cells4 hbx
      refine bodyPost_ret (v := .tuple #[.agg #[.int .i64 29, .int .i64 n, .string s, .slice (some ⟨bl, off, none⟩) ln c], .bool false]) (by simp [results, Tryz.results23, go_sem, y0, y1, y2, y3]) rfl ?_
      have hbb := HB0.out.trans (hbl w.heap.size (by omega))
      exact ⟨hbb, t, _, by rw [HF.out]; rfl, (HV.out.under hbb).old, fun x h => by rw [HF.out] at h; cases h⟩
  · have HF := hid' (show Co.later t = none by rw [HD.out]; exact if_neg (fun h' => h h'.1))
    have gk : (op != 29) = true := by simpa using h
    clear h
    have HS := hid' (set4 HR0.out (.int .i64 op) (.int .i64 n) (.string s) (.slice (some ⟨bl, off, none⟩) ln c))
    obtain ⟨r0, r1, r2, r3⟩ := heap_cells4 HR0.out
    have f0 : ∀ o, w1.frozen? ⟨w.heap.size + 1, o, none⟩ = false := fun o => Rw.frozen_of HR0.out
    go_wp2_with fail
    obtain ⟨hbx, hbl⟩ := HS.out
    generalize World.setCell _ _ _ = w9 at *
    obtain ⟨y0, y1, y2, y3⟩ := heap_cells4 hbx
    refine bodyPost_ret (v := .tuple #[.agg #[.int .i64 op, .int .i64 n, .string s, .slice (some ⟨bl, off, none⟩) ln c], .bool false]) (by simp [results, Tryz.results23, go_sem, y0, y1, y2, y3]) rfl ?_
    have hbb := HB0.out.trans (hbl w.heap.size (by omega))
    exact ⟨hbb, t, _, by rw [HF.out]; rfl, (HV.out.under hbb).old, fun x h => by rw [HF.out] at h; cases h⟩
end Go.Proofs.YtkhileablgllcaaGreatDoor
