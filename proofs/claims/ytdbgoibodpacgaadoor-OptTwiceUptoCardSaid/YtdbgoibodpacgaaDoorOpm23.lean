/- Proved: lemmas and contracts of the functions that the law reaches, part 23 of 23: OptDo, OptSame, OptLaws. Conditions: as each states. -/
import Derived.Test.YtdbgoibodpacgaaDoorOpm22
namespace Go.Proofs.YtdbgoibodpacgaaDoor
open Go.RowKit
set_option linter.unusedVariables false
set_option linter.unusedSimpArgs false
set_option maxRecDepth 100000
namespace Co
theorem index_99 (y : UInt8) : (Lib.indexByte [110, 98, 100, 63, 99] y == 4) = (y == 99) := by
  have e : ∀ (b : UInt8) (l : List UInt8), Lib.indexByte (b :: l) y = if (b == y) = true then 0 else if (Lib.indexByte l y == -1) = true then -1 else Lib.indexByte l y + 1 := fun b l => rfl
  have e0 : Lib.indexByte [] y = -1 := rfl
  rw [e, e, e, e, e, e0]
  by_cases h1 : y = 110
  · subst h1; decide
  by_cases h2 : y = 98
  · subst h2; decide
  by_cases h3 : y = 100
  · subst h3; decide
  by_cases h4 : y = 63
  · subst h4; decide
  by_cases h5 : y = 99
  · subst h5; decide
  have f : ∀ b : UInt8, y ≠ b → (b == y) = false := fun b h => by simpa using fun e => h e.symm
  rw [f 110 h1, f 98 h2, f 100 h3, f 63 h4, f 99 h5]
  have : (y == 99) = false := by simpa using h5
  rw [this]
  rfl
theorem check_good (t : T) : t.check = 0 ↔ t.good := by
  unfold T.check T.good T.ty
  cases hr : t.right with
  | false =>
    simp only [Bool.false_and, cond_false]
    constructor
    · intro h; cases h
    · rintro ⟨h1, h2, h3⟩
      unfold T.right at hr
      rw [h1, h2] at hr
      cases hr
  | true =>
    have hs : small t = true := by unfold T.right at hr; rw [Bool.and_eq_true] at hr; exact hr.1
    simp only [Bool.true_and, cond_true, index_99]
    cases hy : (t.letter == 99) with
    | false =>
      simp only [cond_false]
      constructor
      · intro h; cases h
      · rintro ⟨h1, h2, h3⟩
        rw [h2] at hy
        cases hy
    | true =>
      cases ha : t.ahead with
      | true => simp
      | false => simp [hs]; simpa using hy
theorem check_val (t : T) : t.check = 0 ∨ t.check = 140 ∨ t.check = 141 := by
  unfold T.check
  cases (t.right && t.ty == 4)
  · exact .inr (.inl rfl)
  · cases t.ahead
    · exact .inl rfl
    · exact .inr (.inr rfl)
/-- What Do answers. -/
def fits (t : T) (p : Int) : Bool := t.check == 0 && (decide (0 ≤ p) && decide (p ≤ 15))
def opt (t : T) (p : Int) : T := bif fits t p then t.rw p else leaf 0 0
def optE (t : T) (p : Int) : Int := bif fits t p then 0 else 160
end Co
def DoOut (ok : Nat → Prop) (t : Co.T) (p : Int) (w : World) (e : Ending) (w' : World) : Prop := Below w.heap.size w w' ∧ ∃ v, e = .returned (.tuple #[v, .int .i64 (Co.optE t p)]) ∧ CoreIn (fun b => ok b ∨ w.heap.size ≤ b) w' (Co.opt t p) v
set_option maxHeartbeats 4000000 in
theorem do_any (ok : Nat → Prop) (t : Co.T) (v : Value) (p : Int) (w : World) (hok : ∀ b, ok b → b < w.heap.size) (hv : CoreIn ok w t v) (hsz : t.size ≤ 2000000) :
    Calls Tryd.prog 10 #[v, .int .i64 p] w (DoOut ok t p w) := by
  obtain ⟨op, n, s, q, ln, c, rfl, hop, hn, hs, hln⟩ := open_term hv
  have HV := hid' hv
  have HOK := hid' hok
  have HCK := hid' (fun (W : World) (hb : Below w.heap.size w W) => checkT_any t _ W ((hv.under hb).at' (Nat.le_refl _)) hsz)
  have hx0 := ((Below.refl _ w).alloc (Nat.le_refl _) (.cells #[.int .i64 op, .int .i64 n, .string s, .slice q ln c] 24))
  have hx1 := hx0.alloc (by simp) (.cells #[.int .i64 0, .int .i64 0, .string ⟨#[]⟩, .slice none 0 0] 24)
  have y0 := heap_alloc_new w (.cells #[.int .i64 op, .int .i64 n, .string s, .slice q ln c] 24)
  have y1 := heap_alloc_new (w.alloc (.cells #[.int .i64 op, .int .i64 n, .string s, .slice q ln c] 24)) (.cells #[.int .i64 0, .int .i64 0, .string ⟨#[]⟩, .slice none 0 0] 24)
  have z1 : ∀ (W : World) (o : Obj) (k : Nat) (x : Obj), W.heap[k]? = some x → (W.alloc o).heap[k]? = some x := fun W o k x h => (((Below.refl W.heap.size W).alloc (Nat.le_refl _) o).block k (lt_of_block h)).trans h
  replace y0 := z1 _ (.cells #[.int .i64 0, .int .i64 0, .string ⟨#[]⟩, .slice none 0 0] 24) _ _ y0
  simp only [World.size_alloc] at y1
  obtain ⟨ck, hck⟩ : ∃ ck, Hid (t.check = ck) := ⟨_, hid' rfl⟩
  rw [hck.out] at HCK
  clear hx0 z1 hok hop hn hs hln hv
  go_enter Tryd.func10, Tryd.ntmps10
  go_upto_region 1 with (fail)
  generalize World.alloc _ _ = w1 at *
  have HB := hid' hx1
  have HC := hid' y0
  have HR := hid' y1
  obtain ⟨c0, c1, c2, c3⟩ := heap_cells4 y0
  clear hx1 y0 y1
  go_wp2_with fail
  refine (HCK.out _ HB.out).mono ?_
  rintro e w2 ⟨rfl, b2⟩
  have HB2 := hid' (Below.more HB.out b2)
  have HC2 := hid' ((b2.block _ (lt_of_block HC.out)).trans HC.out)
  have HR2 := hid' ((b2.block _ (lt_of_block HR.out)).trans HR.out)
  clear b2 c0 c1 c2 c3
  obtain ⟨c0, c1, c2, c3⟩ := heap_cells4 HC2.out
  obtain ⟨r0, r1, r2, r3⟩ := heap_cells4 HR2.out
  have f0 : ∀ o, w2.frozen? ⟨w.heap.size + 1, o, none⟩ = false := fun o => Rw.frozen_of HR2.out
  by_cases hfit : ck = 0 ∧ 0 ≤ p ∧ p ≤ 15
  · obtain ⟨rfl, h1, h2⟩ := hfit
    have HF := hid' (show Co.fits t p = true by unfold Co.fits; rw [hck.out]; simp [h1, h2])
    have HP := hid' (And.intro h1 h2)
    have g1 : decide (p < 0) = false := decide_eq_false (by omega)
    have g2 : decide (15 < p) = false := decide_eq_false (by omega)
    clear h1 h2
    go_wp2_with fail
    clear c0 c1 c2 c3 r0 r1 r2 r3 f0
    refine wp_region_chain (fun W => W.heap[w.heap.size]? = some (.cells #[.int .i64 op, .int .i64 n, .string s, .slice q ln c] 24 (0, 0)) ∧ W.heap[w.heap.size + 1]? = some (.cells #[.int .i64 0, .int .i64 0, .string ⟨#[]⟩, .slice none 0 0] 24 (0, 0))) 4 [false, false, true, true, true, true] (by kernel_rfl) (by kernel_rfl) (by kernel_rfl) ⟨HC2.out, HR2.out⟩ ?_
    apply wpChain_quiet
    · rfl
    · intro W hW
      obtain ⟨d0, d1, d2, d3⟩ := heap_cells4 hW.1
      first | (go_simp; done) | (go_simp; with_reducible rfl)
    simp only [Act.put, List.setIfInBounds_toArray, List.set_cons_zero, List.set_cons_succ]
    apply wpChain_quiet
    · rfl
    · intro W hW
      obtain ⟨d0, d1, d2, d3⟩ := heap_cells4 hW.1
      first | (go_simp; done) | (go_simp; with_reducible rfl)
    simp only [Act.put, List.setIfInBounds_toArray, List.set_cons_zero, List.set_cons_succ]
    refine wpChain_call 25 #[] (fun v w' => v = .slice (some ⟨w2.drew.heap.size, 0, none⟩) 7 7 ∧ Below w2.drew.heap.size w2.drew w' ∧ RulesAt w' w2.drew.heap.size) ?_ ?_ ?_ ?_
    · rfl
    · go_simp
    · refine (rules_any _).mono ?_
      rintro e w' ⟨h1, h2, h3⟩
      exact ⟨_, h1, rfl, h2, h3⟩
    rintro v w3 ⟨rfl, b3, hr3⟩
    have b23 : Below w2.heap.size w2 w3 := (Below.refl _ w2).drew.trans b3
    have HB3 := hid' (HB2.out.trans (b23.mono HB2.out.size))
    have HC3 := hid' ((b23.block _ (lt_of_block HC2.out)).trans HC2.out)
    have HR3 := hid' ((b23.block _ (lt_of_block HR2.out)).trans HR2.out)
    have HRL := hid' hr3
    refine ⟨.inr ⟨HC3.out, HR3.out⟩, ?_⟩
    simp only [Act.put, List.setIfInBounds_toArray, List.set_cons_zero, List.set_cons_succ]
    clear b3 b23 hr3
    refine wpChain_call 24 #[.agg #[.int .i64 op, .int .i64 n, .string s, .slice q ln c], .int .i64 p, .slice (some ⟨w2.drew.heap.size, 0, none⟩) 7 7] (fun v w' => Below w3.heap.size w3 w' ∧ CoreIn (fun b => ok b ∨ w3.heap.size ≤ b) w' (t.rw p) v) ?_ ?_ ?_ ?_
    · rfl
    · go_simp
    · refine (rewrite_any p HP.out t ok _ w2.drew.heap.size w3 (fun b h => Nat.lt_of_lt_of_le (HOK.out b h) HB3.out.size) (HV.out.under HB3.out) (by have := (Co.check_good t).1 hck.out; rw [this.2.1]; decide) HRL.out).mono ?_
      rintro e w' ⟨h1, v, h2, h3⟩
      exact ⟨v, h2, h1, h3⟩
    rintro v w4 ⟨b4, hu⟩
    obtain ⟨uop, un, us, up, ul, uc, rfl, -, -, -, -⟩ := open_term hu
    have HB4 := hid' (HB3.out.trans (b4.mono HB3.out.size))
    have HC4 := hid' ((b4.block _ (lt_of_block HC3.out)).trans HC3.out)
    have HR4 := hid' ((b4.block _ (lt_of_block HR3.out)).trans HR3.out)
    have HU := hid' hu
    refine ⟨.inr ⟨HC4.out, HR4.out⟩, ?_⟩
    simp only [Act.put, List.setIfInBounds_toArray, List.set_cons_zero, List.set_cons_succ]
    clear b4 hu
    obtain ⟨r0, r1, r2, r3⟩ := heap_cells4 HR4.out
    have f0 : ∀ o, w4.frozen? ⟨w.heap.size + 1, o, none⟩ = false := fun o => Rw.frozen_of HR4.out
    have HS := hid' (And.intro (set4 HR4.out (.int .i64 uop) (.int .i64 un) (.string us) (.slice up ul uc)) (grown4 w4 (w.heap.size + 1) (.int .i64 uop) (.int .i64 un) (.string us) (.slice up ul uc)))
    refine wpChain_put (w' := ((((w4.setCell ⟨w.heap.size + 1, 0, none⟩ (.int .i64 uop)).setCell ⟨w.heap.size + 1, 1, none⟩ (.int .i64 un)).setCell ⟨w.heap.size + 1, 2, none⟩ (.string us)).setCell ⟨w.heap.size + 1, 3, none⟩ (.slice up ul uc))) ?_ ?_ ?_ ?_
    · rfl
    · go_simp
    · exact .inl (Nat.le_refl _)
    clear r0 r1 r2 r3 f0
    obtain ⟨⟨hbx, hbl⟩, hg⟩ := HS.out
    generalize World.setCell _ _ _ = w9 at *
    refine wpChain_val (v := .int .i64 0) (w' := w9) ?_ ?_ ?_ ?_
    · rfl
    · go_simp
    · exact .inl (by decide)
    simp only [Act.put, List.setIfInBounds_toArray, List.set_cons_zero, List.set_cons_succ]
    refine wpChain_nil ?_
    have HBX := hid' (And.intro hbx (And.intro hbl hg))
    clear hbx hbl hg
    go_wp2_with fail
    obtain ⟨hbx, hbl, hg⟩ := HBX.out
    obtain ⟨y0, y1, y2, y3⟩ := heap_cells4 hbx
    refine bodyPost_ret (v := .tuple #[.agg #[.int .i64 uop, .int .i64 un, .string us, .slice up ul uc], .int .i64 0]) (by simp [results, Tryd.results10, go_sem, y0, y1, y2, y3]) rfl ?_
    refine ⟨HB4.out.trans (hbl w.heap.size (by omega)), _, by unfold Co.optE; rw [HF.out]; rfl, ?_⟩
    unfold Co.opt
    rw [HF.out]
    refine HU.out.keep (fun b hb hl => ⟨hb.imp id (fun h => Nat.le_trans HB3.out.size h), hg.block b hl (fun e => ?_)⟩)
    obtain rfl : w.heap.size + 1 = b := by simpa using e.symm
    rcases hb with hb | hb
    · have := HOK.out _ hb; omega
    · have := lt_of_block HR3.out; omega
  · have HF := hid' (show Co.fits t p = false by
      unfold Co.fits
      rw [hck.out]
      rw [Bool.eq_false_iff]
      intro h
      simp only [Bool.and_eq_true, beq_iff_eq, decide_eq_true_eq] at h
      exact hfit h)
    have HS := hid' (set4 HR2.out (.int .i64 0) (.int .i64 0) (.string ⟨#[]⟩) (.slice none 0 0))
    have hfin : ∀ w9 : World, w9.heap[w.heap.size + 1]? = some (.cells #[.int .i64 0, .int .i64 0, .string ⟨#[]⟩, .slice none 0 0] 24 (0, 0)) → Below w.heap.size w w9 → DoOut ok t p w (.returned (.tuple #[.agg #[.int .i64 0, .int .i64 0, .string ⟨#[]⟩, .slice none 0 0], .int .i64 160])) w9 := by
      intro w9 h9 hb
      refine ⟨hb, _, by unfold Co.optE; rw [HF.out]; rfl, ?_⟩
      unfold Co.opt
      rw [HF.out]
      exact coreAt_leaf (by unfold I64; omega) (by unfold I64; omega)
    have HFIN := hid' hfin
    clear hfin
    by_cases h0 : ck = 0
    · subst h0
      by_cases h1 : p < 0
      · have g1 : decide (p < 0) = true := decide_eq_true h1
        clear h1 hfit
        go_wp2_with fail
        obtain ⟨hbx, hbl⟩ := HS.out
        generalize World.setCell _ _ _ = w9 at *
        obtain ⟨y0, y1, y2, y3⟩ := heap_cells4 hbx
        refine bodyPost_ret (v := .tuple #[.agg #[.int .i64 0, .int .i64 0, .string ⟨#[]⟩, .slice none 0 0], .int .i64 160]) (by simp [results, Tryd.results10, go_sem, y0, y1, y2, y3]) rfl ?_
        exact HFIN.out w9 hbx (HB2.out.trans (hbl w.heap.size (by omega)))
      · have g1 : decide (p < 0) = false := decide_eq_false h1
        have g2 : decide (15 < p) = true := decide_eq_true (by omega)
        clear h1 hfit
        go_wp2_with fail
        obtain ⟨hbx, hbl⟩ := HS.out
        generalize World.setCell _ _ _ = w9 at *
        obtain ⟨y0, y1, y2, y3⟩ := heap_cells4 hbx
        refine bodyPost_ret (v := .tuple #[.agg #[.int .i64 0, .int .i64 0, .string ⟨#[]⟩, .slice none 0 0], .int .i64 160]) (by simp [results, Tryd.results10, go_sem, y0, y1, y2, y3]) rfl ?_
        exact HFIN.out w9 hbx (HB2.out.trans (hbl w.heap.size (by omega)))
    · have g0 : (ck != 0) = true := by simpa using h0
      clear h0 hfit
      go_wp2_with fail
      obtain ⟨hbx, hbl⟩ := HS.out
      generalize World.setCell _ _ _ = w9 at *
      obtain ⟨y0, y1, y2, y3⟩ := heap_cells4 hbx
      refine bodyPost_ret (v := .tuple #[.agg #[.int .i64 0, .int .i64 0, .string ⟨#[]⟩, .slice none 0 0], .int .i64 160]) (by simp [results, Tryd.results10, go_sem, y0, y1, y2, y3]) rfl ?_
      exact HFIN.out w9 hbx (HB2.out.trans (hbl w.heap.size (by omega)))
end Go.Proofs.YtdbgoibodpacgaaDoor
namespace Go.Proofs.YtdbgoibodpacgaaDoor
open Go.RowKit
set_option linter.unusedVariables false
set_option linter.unusedSimpArgs false
set_option maxRecDepth 100000
theorem Co.still_eq (op n : Int) (s : ByteArray) (ks : List Co.T) : (Co.T.mk op n s ks).still = ((op != 4 && op != 5) && ks.all Co.T.still) := by
  rw [Bool.eq_iff_iff, Bool.and_eq_true, List.all_eq_true, Co.still_iff]
  simp only [Co.still_iff, Bool.and_eq_true, bne_iff_ne, Co.T.nodes, List.mem_cons, forall_eq_or_imp, Co.mem_nodess]
  constructor
  · rintro ⟨h1, h2⟩
    exact ⟨h1, fun k hk x hx => h2 x ⟨k, hk, hx⟩⟩
  · rintro ⟨h1, h2⟩
    exact ⟨h1, fun x ⟨k, hk, hx⟩ => h2 k hk x hx⟩
theorem Co.done_eq (op n : Int) (s : ByteArray) (ks : List Co.T) : (Co.T.mk op n s ks).done = (!(decide (6 ≤ op) && decide (op < 23)) && ks.all Co.T.done) := by
  rw [Bool.eq_iff_iff, Bool.and_eq_true, List.all_eq_true, Co.done_iff]
  simp only [Co.done_iff, Co.T.nodes, List.mem_cons, forall_eq_or_imp, Co.mem_nodess]
  constructor
  · rintro ⟨h1, h2⟩
    refine ⟨?_, fun k hk x hx => h2 x ⟨k, hk, hx⟩⟩
    simp only [Bool.not_eq_true', Bool.and_eq_false_iff, decide_eq_false_iff_not]
    have h1' : ¬ (6 ≤ op ∧ op < 23) := h1
    omega
  · rintro ⟨h1, h2⟩
    simp only [Bool.not_eq_true', Bool.and_eq_false_iff, decide_eq_false_iff_not] at h1
    exact ⟨by show ¬ (6 ≤ op ∧ op < 23); omega, fun x ⟨k, hk, hx⟩ => h2 k hk x hx⟩
theorem all_take_succ {α : Type} {l : List α} {i : Nat} {k : α} (f : α → Bool) (h : l[i]? = some k) : (l.take (i + 1)).all f = ((l.take i).all f && f k) := by
  rw [take_one h, List.all_append]
  simp
theorem all_false_of {α : Type} {l : List α} {k : α} {f : α → Bool} (h : k ∈ l) (hf : f k = false) : l.all f = false := by
  rw [Bool.eq_false_iff]
  intro h1
  rw [List.all_eq_true.1 h1 k h] at hf
  cases hf
set_option maxHeartbeats 4000000 in
theorem still_any (t : Co.T) : ∀ (ok : Nat → Prop) (v : Value) (w : World), CoreIn ok w t v → t.size ≤ 2000000 → Calls Tryd.prog 12 #[v] w (Gives (.bool t.still) w) := by
  induction t using Co.T.ind with | h op n s ks ih => ?_
  intro ok v w hv hsz
  obtain ⟨q, c, rfl, hc, ho, hn, hs, hk⟩ := hv.open
  simp only [Co.T.op, Co.T.n, Co.T.s, Co.T.ks] at hk ⊢
  have HIH := hid' ih
  have HK := hid' hk
  have HZ := hid' (show ks.length ≤ 2000000 by rw [Co.T.size] at hsz; have := Co.sizes_len ks; omega)
  have HSZ := hid' (fun k (h : k ∈ ks) => show k.size ≤ 2000000 by have := Co.sizes_mem h; rw [Co.T.size] at hsz; omega)
  have HB := hid' ((Below.refl w.heap.size w).alloc (Nat.le_refl _) (.cells #[.int .i64 op, .int .i64 n, .string s, .slice q ks.length c] 24))
  have HC := hid' (heap_alloc_new w (.cells #[.int .i64 op, .int .i64 n, .string s, .slice q ks.length c] 24))
  obtain ⟨R, hR⟩ : ∃ R, Hid ((Co.T.mk op n s ks).still = R) := ⟨_, hid' rfl⟩
  rw [hR.out]
  have HE := hid' (show R = ((op != 4 && op != 5) && ks.all Co.T.still) by rw [← hR.out, Co.still_eq])
  clear ih hk hc ho hn hs hsz hv
  go_enter Tryd.func12, Tryd.ntmps12
  go_upto_region 1 with (fail)
  generalize World.alloc _ _ = w1 at *
  obtain ⟨c0, c1, c2, c3⟩ := heap_cells4 HC.out
  by_cases h45 : op = 4 ∨ op = 5
  · have HN := hid' (show R = false by
      rw [HE.out]
      rcases h45 with rfl | rfl <;> simp)
    rcases h45 with rfl | rfl
    all_goals
      go_wp2_with fail
      go_ret
      exact ⟨by rw [HN.out]; rfl, HB.out⟩
  · simp only [not_or] at h45
    have HROOT := hid' (show (op != 4 && op != 5) = true by simp [h45.1, h45.2])
    have g4 : (op == 4) = false := by simpa using h45.1
    have g5 : (op == 5) = false := by simpa using h45.2
    clear h45
    go_wp2_with fail
    go_loopw [3] (fun iv wr => ∃ (i : Nat), iv = .int .i64 (i : Int) ∧ i ≤ ks.length ∧ Hid (Below w1.heap.size w1 wr ∧ (ks.take i).all Co.T.still = true)) (fun iv _ => ks.length - (intOf iv).toNat)
    case atStart => exact ⟨0, rfl, Nat.zero_le _, hid' ⟨Below.refl _ _, rfl⟩⟩
    case round =>
      obtain ⟨i, rfl, hi, HJ⟩ := hrel
      have hc1 := (HJ.out.1.block _ (lt_of_block HC.out)).trans HC.out
      obtain ⟨d0, d1, d2, d3⟩ := heap_cells4 hc1
      have HB1 := hid' (HB.out.trans (HJ.out.1.mono HB.out.size))
      clear hc1
      by_cases hik : i < ks.length
      · obtain ⟨k, hkk⟩ : ∃ k, ks[i]? = some k := ⟨_, List.getElem?_eq_getElem hik⟩
        obtain ⟨vk, hrow, hvk⟩ := HK.out i k hkk
        obtain ⟨b, off, x0, y0, z0, u0, e, hlb, hve, r0, r1, r2, r3⟩ := hrow.keep (fun b h hl => ⟨h, HB1.out.block b hl⟩)
        subst e
        have HKV := hid' hvk
        obtain ⟨pk, ck, rfl, -, -, -, -, -⟩ := hvk.open
        obtain ⟨rfl, rfl, rfl, rfl⟩ : .int .i64 k.op = x0 ∧ .int .i64 k.n = y0 ∧ .string k.s = z0 ∧ .slice pk k.ks.length ck = u0 := by simpa using hve
        have g0 : decide ((i : Int) < (ks.length : Int)) = true := by simp; omega
        have j1 : (0 : Int) ≤ (i : Int) := by omega
        have j2 : (i : Int) < (ks.length : Int) := by omega
        have hiw : IntKind.i64.wrap ((i : Int) + 1) = (i : Int) + 1 := IntWalk.i64_in _ (by have := HZ.out; omega)
        have HKK := hid' hkk
        clear hve hkk hrow hvk
        go_wp2_with fail
        refine (HIH.out k (List.mem_of_getElem? HKK.out) ok _ wr (HKV.out.under HB1.out) (HSZ.out k (List.mem_of_getElem? HKK.out))).mono ?_
        rintro e w5 ⟨rfl, b5⟩
        have HJ5 := hid' (HJ.out.1.trans (b5.mono HJ.out.1.size))
        have HW5 := hid' (HB1.out.trans (b5.mono HB1.out.size))
        clear b5 r0 r1 r2 r3 d0 d1 d2 d3
        obtain ⟨g, hg⟩ : ∃ g, Hid (k.still = g) := ⟨_, hid' rfl⟩
        rw [hg.out]
        cases g with
        | true =>
          have HNX := hid' (show Below w1.heap.size w1 w5 ∧ (ks.take (i + 1)).all Co.T.still = true from ⟨HJ5.out, by rw [all_take_succ _ HKK.out, HJ.out.2, hg.out]; rfl⟩)
          go_wp2_with fail
          go_roundw
          case rel => exact ⟨i + 1, by go_num, by omega, HNX⟩
          case measure => simp only [intOf]; omega
        | false =>
          have HN := hid' (show R = false by rw [HE.out, all_false_of (List.mem_of_getElem? HKK.out) hg.out, Bool.and_false])
          go_wp2_with fail
          go_ret
          exact ⟨by rw [HN.out]; rfl, HW5.out⟩
      · obtain rfl : i = ks.length := by omega
        have g0 : decide (ks.length < ks.length) = false := by simp
        have HY := hid' (show R = true by
          rw [HE.out]
          have h2 := HJ.out.2
          rw [List.take_length] at h2
          rw [h2, HROOT.out]
          rfl)
        clear hik
        go_wp2_with fail
        go_ret
        exact ⟨by rw [HY.out]; rfl, HB1.out⟩
set_option maxHeartbeats 4000000 in
theorem done_any (t : Co.T) : ∀ (ok : Nat → Prop) (v : Value) (w : World), CoreIn ok w t v → t.size ≤ 2000000 → Calls Tryd.prog 13 #[v] w (Gives (.bool t.done) w) := by
  induction t using Co.T.ind with | h op n s ks ih => ?_
  intro ok v w hv hsz
  obtain ⟨q, c, rfl, hc, ho, hn, hs, hk⟩ := hv.open
  simp only [Co.T.op, Co.T.n, Co.T.s, Co.T.ks] at hk ⊢
  have HIH := hid' ih
  have HK := hid' hk
  have HZ := hid' (show ks.length ≤ 2000000 by rw [Co.T.size] at hsz; have := Co.sizes_len ks; omega)
  have HSZ := hid' (fun k (h : k ∈ ks) => show k.size ≤ 2000000 by have := Co.sizes_mem h; rw [Co.T.size] at hsz; omega)
  have HB := hid' ((Below.refl w.heap.size w).alloc (Nat.le_refl _) (.cells #[.int .i64 op, .int .i64 n, .string s, .slice q ks.length c] 24))
  have HC := hid' (heap_alloc_new w (.cells #[.int .i64 op, .int .i64 n, .string s, .slice q ks.length c] 24))
  obtain ⟨R, hR⟩ : ∃ R, Hid ((Co.T.mk op n s ks).done = R) := ⟨_, hid' rfl⟩
  rw [hR.out]
  have HE := hid' (show R = (!(decide (6 ≤ op) && decide (op < 23)) && ks.all Co.T.done) by rw [← hR.out, Co.done_eq])
  clear ih hk hc ho hn hs hsz hv
  go_enter Tryd.func13, Tryd.ntmps13
  go_upto_region 1 with (fail)
  generalize World.alloc _ _ = w1 at *
  obtain ⟨c0, c1, c2, c3⟩ := heap_cells4 HC.out
  by_cases h6 : 6 ≤ op ∧ op < 23
  · have HN := hid' (show R = false by
      rw [HE.out]
      simp [h6.1, h6.2])
    have g6 : decide (6 ≤ op) = true := decide_eq_true h6.1
    have g7 : decide (op < 23) = true := decide_eq_true h6.2
    clear h6
    go_wp2_with fail
    go_ret
    exact ⟨by rw [HN.out]; rfl, HB.out⟩
  · have HROOT := hid' (show (!(decide (6 ≤ op) && decide (op < 23))) = true by
      simp only [Bool.not_eq_true', Bool.and_eq_false_iff, decide_eq_false_iff_not]; omega)
    have HH := hid' h6
    clear h6
    by_cases h61 : 6 ≤ op
    · have g6 : decide (6 ≤ op) = true := decide_eq_true h61
      have g7 : decide (op < 23) = false := decide_eq_false (by have := HH.out; omega)
      clear h61
      go_wp2_with fail
      go_loopw [3] (fun iv wr => ∃ (i : Nat), iv = .int .i64 (i : Int) ∧ i ≤ ks.length ∧ Hid (Below w1.heap.size w1 wr ∧ (ks.take i).all Co.T.done = true)) (fun iv _ => ks.length - (intOf iv).toNat)
      case atStart => exact ⟨0, rfl, Nat.zero_le _, hid' ⟨Below.refl _ _, rfl⟩⟩
      case round =>
        obtain ⟨i, rfl, hi, HJ⟩ := hrel
        have hc1 := (HJ.out.1.block _ (lt_of_block HC.out)).trans HC.out
        obtain ⟨d0, d1, d2, d3⟩ := heap_cells4 hc1
        have HB1 := hid' (HB.out.trans (HJ.out.1.mono HB.out.size))
        clear hc1
        by_cases hik : i < ks.length
        · obtain ⟨k, hkk⟩ : ∃ k, ks[i]? = some k := ⟨_, List.getElem?_eq_getElem hik⟩
          obtain ⟨vk, hrow, hvk⟩ := HK.out i k hkk
          obtain ⟨b, off, x0, y0, z0, u0, e, hlb, hve, r0, r1, r2, r3⟩ := hrow.keep (fun b h hl => ⟨h, HB1.out.block b hl⟩)
          subst e
          have HKV := hid' hvk
          obtain ⟨pk, ck, rfl, -, -, -, -, -⟩ := hvk.open
          obtain ⟨rfl, rfl, rfl, rfl⟩ : .int .i64 k.op = x0 ∧ .int .i64 k.n = y0 ∧ .string k.s = z0 ∧ .slice pk k.ks.length ck = u0 := by simpa using hve
          have g0 : decide ((i : Int) < (ks.length : Int)) = true := by simp; omega
          have j1 : (0 : Int) ≤ (i : Int) := by omega
          have j2 : (i : Int) < (ks.length : Int) := by omega
          have hiw : IntKind.i64.wrap ((i : Int) + 1) = (i : Int) + 1 := IntWalk.i64_in _ (by have := HZ.out; omega)
          have HKK := hid' hkk
          clear hve hkk hrow hvk
          go_wp2_with fail
          refine (HIH.out k (List.mem_of_getElem? HKK.out) ok _ wr (HKV.out.under HB1.out) (HSZ.out k (List.mem_of_getElem? HKK.out))).mono ?_
          rintro e w5 ⟨rfl, b5⟩
          have HJ5 := hid' (HJ.out.1.trans (b5.mono HJ.out.1.size))
          have HW5 := hid' (HB1.out.trans (b5.mono HB1.out.size))
          clear b5 r0 r1 r2 r3 d0 d1 d2 d3
          obtain ⟨g, hg⟩ : ∃ g, Hid (k.done = g) := ⟨_, hid' rfl⟩
          rw [hg.out]
          cases g with
          | true =>
            have HNX := hid' (show Below w1.heap.size w1 w5 ∧ (ks.take (i + 1)).all Co.T.done = true from ⟨HJ5.out, by rw [all_take_succ _ HKK.out, HJ.out.2, hg.out]; rfl⟩)
            go_wp2_with fail
            go_roundw
            case rel => exact ⟨i + 1, by go_num, by omega, HNX⟩
            case measure => simp only [intOf]; omega
          | false =>
            have HN := hid' (show R = false by rw [HE.out, all_false_of (List.mem_of_getElem? HKK.out) hg.out, Bool.and_false])
            go_wp2_with fail
            go_ret
            exact ⟨by rw [HN.out]; rfl, HW5.out⟩
        · obtain rfl : i = ks.length := by omega
          have g0 : decide (ks.length < ks.length) = false := by simp
          have HY := hid' (show R = true by
            rw [HE.out]
            have h2 := HJ.out.2
            rw [List.take_length] at h2
            rw [h2, HROOT.out]
            rfl)
          clear hik
          go_wp2_with fail
          go_ret
          exact ⟨by rw [HY.out]; rfl, HB1.out⟩
    · have g6 : decide (6 ≤ op) = false := decide_eq_false h61
      clear h61
      go_wp2_with fail
      go_loopw [3] (fun iv wr => ∃ (i : Nat), iv = .int .i64 (i : Int) ∧ i ≤ ks.length ∧ Hid (Below w1.heap.size w1 wr ∧ (ks.take i).all Co.T.done = true)) (fun iv _ => ks.length - (intOf iv).toNat)
      case atStart => exact ⟨0, rfl, Nat.zero_le _, hid' ⟨Below.refl _ _, rfl⟩⟩
      case round =>
        obtain ⟨i, rfl, hi, HJ⟩ := hrel
        have hc1 := (HJ.out.1.block _ (lt_of_block HC.out)).trans HC.out
        obtain ⟨d0, d1, d2, d3⟩ := heap_cells4 hc1
        have HB1 := hid' (HB.out.trans (HJ.out.1.mono HB.out.size))
        clear hc1
        by_cases hik : i < ks.length
        · obtain ⟨k, hkk⟩ : ∃ k, ks[i]? = some k := ⟨_, List.getElem?_eq_getElem hik⟩
          obtain ⟨vk, hrow, hvk⟩ := HK.out i k hkk
          obtain ⟨b, off, x0, y0, z0, u0, e, hlb, hve, r0, r1, r2, r3⟩ := hrow.keep (fun b h hl => ⟨h, HB1.out.block b hl⟩)
          subst e
          have HKV := hid' hvk
          obtain ⟨pk, ck, rfl, -, -, -, -, -⟩ := hvk.open
          obtain ⟨rfl, rfl, rfl, rfl⟩ : .int .i64 k.op = x0 ∧ .int .i64 k.n = y0 ∧ .string k.s = z0 ∧ .slice pk k.ks.length ck = u0 := by simpa using hve
          have g0 : decide ((i : Int) < (ks.length : Int)) = true := by simp; omega
          have j1 : (0 : Int) ≤ (i : Int) := by omega
          have j2 : (i : Int) < (ks.length : Int) := by omega
          have hiw : IntKind.i64.wrap ((i : Int) + 1) = (i : Int) + 1 := IntWalk.i64_in _ (by have := HZ.out; omega)
          have HKK := hid' hkk
          clear hve hkk hrow hvk
          go_wp2_with fail
          refine (HIH.out k (List.mem_of_getElem? HKK.out) ok _ wr (HKV.out.under HB1.out) (HSZ.out k (List.mem_of_getElem? HKK.out))).mono ?_
          rintro e w5 ⟨rfl, b5⟩
          have HJ5 := hid' (HJ.out.1.trans (b5.mono HJ.out.1.size))
          have HW5 := hid' (HB1.out.trans (b5.mono HB1.out.size))
          clear b5 r0 r1 r2 r3 d0 d1 d2 d3
          obtain ⟨g, hg⟩ : ∃ g, Hid (k.done = g) := ⟨_, hid' rfl⟩
          rw [hg.out]
          cases g with
          | true =>
            have HNX := hid' (show Below w1.heap.size w1 w5 ∧ (ks.take (i + 1)).all Co.T.done = true from ⟨HJ5.out, by rw [all_take_succ _ HKK.out, HJ.out.2, hg.out]; rfl⟩)
            go_wp2_with fail
            go_roundw
            case rel => exact ⟨i + 1, by go_num, by omega, HNX⟩
            case measure => simp only [intOf]; omega
          | false =>
            have HN := hid' (show R = false by rw [HE.out, all_false_of (List.mem_of_getElem? HKK.out) hg.out, Bool.and_false])
            go_wp2_with fail
            go_ret
            exact ⟨by rw [HN.out]; rfl, HW5.out⟩
        · obtain rfl : i = ks.length := by omega
          have g0 : decide (ks.length < ks.length) = false := by simp
          have HY := hid' (show R = true by
            rw [HE.out]
            have h2 := HJ.out.2
            rw [List.take_length] at h2
            rw [h2, HROOT.out]
            rfl)
          clear hik
          go_wp2_with fail
          go_ret
          exact ⟨by rw [HY.out]; rfl, HB1.out⟩
set_option maxHeartbeats 4000000 in
theorem same_any (t : Co.T) : ∀ (ok ok2 : Nat → Prop) (v v2 : Value) (w : World), CoreIn ok w t v → CoreIn ok2 w t v2 → t.size ≤ 2000000 → Calls Tryd.prog 11 #[v, v2] w (Gives (.bool true) w) := by
  induction t using Co.T.ind with | h op n s ks ih => ?_
  intro ok ok2 v v2 w hv hv2 hsz
  obtain ⟨q, c, rfl, -, -, -, -, hk⟩ := hv.open
  obtain ⟨q2, c2, rfl, -, -, -, -, hk2⟩ := hv2.open
  simp only [Co.T.op, Co.T.n, Co.T.s, Co.T.ks] at hk hk2 hv hv2 ⊢
  have HIH := hid' ih
  have HV := hid' hv
  have HV2 := hid' hv2
  have HZ := hid' (show ks.length ≤ 2000000 by rw [Co.T.size] at hsz; have := Co.sizes_len ks; omega)
  have HSZ := hid' (fun k (h : k ∈ ks) => show k.size ≤ 2000000 by have := Co.sizes_mem h; rw [Co.T.size] at hsz; omega)
  have hx1 := ((Below.refl w.heap.size w).alloc (Nat.le_refl _) (.cells #[.int .i64 op, .int .i64 n, .string s, .slice q ks.length c] 24)).alloc (by simp) (.cells #[.int .i64 op, .int .i64 n, .string s, .slice q2 ks.length c2] 24)
  have y0 := (((Below.refl (w.alloc (.cells #[.int .i64 op, .int .i64 n, .string s, .slice q ks.length c] 24)).heap.size (w.alloc (.cells #[.int .i64 op, .int .i64 n, .string s, .slice q ks.length c] 24))).alloc (Nat.le_refl _) (.cells #[.int .i64 op, .int .i64 n, .string s, .slice q2 ks.length c2] 24)).block w.heap.size (by simp)).trans (heap_alloc_new w (.cells #[.int .i64 op, .int .i64 n, .string s, .slice q ks.length c] 24))
  have y1 := heap_alloc_new (w.alloc (.cells #[.int .i64 op, .int .i64 n, .string s, .slice q ks.length c] 24)) (.cells #[.int .i64 op, .int .i64 n, .string s, .slice q2 ks.length c2] 24)
  simp only [World.size_alloc] at y1
  clear ih hk hk2 hsz hv hv2
  have gs : (s.toList == s.toList) = true := beq_self_eq_true _
  have gsn : (s.toList != s.toList) = false := by simp
  go_enter Tryd.func11, Tryd.ntmps11
  go_upto_region 1 with (fail)
  generalize World.alloc _ _ = w1 at *
  have HB := hid' hx1
  have HC := hid' y0
  have HD := hid' y1
  obtain ⟨c0, c1, c2', c3⟩ := heap_cells4 y0
  obtain ⟨x0, x1, x2, x3⟩ := heap_cells4 y1
  clear hx1 y0 y1
  go_wp2_with fail
  go_loopw [5] (fun iv wr => ∃ (i : Nat), iv = .int .i64 (i : Int) ∧ i ≤ ks.length ∧ Hid (Below w1.heap.size w1 wr)) (fun iv _ => ks.length - (intOf iv).toNat)
  case atStart => exact ⟨0, rfl, Nat.zero_le _, hid' (Below.refl _ _)⟩
  case round =>
    obtain ⟨i, rfl, hi, HJ⟩ := hrel
    have HC1 := hid' ((HJ.out.block _ (lt_of_block HC.out)).trans HC.out)
    have HD1 := hid' ((HJ.out.block _ (lt_of_block HD.out)).trans HD.out)
    have HB1 := hid' (HB.out.trans (HJ.out.mono HB.out.size))
    obtain ⟨d0, d1, d2, d3⟩ := heap_cells4 HC1.out
    obtain ⟨e0, e1, e2, e3⟩ := heap_cells4 HD1.out
    by_cases hik : i < ks.length
    · obtain ⟨k, hkk⟩ : ∃ k, ks[i]? = some k := ⟨_, List.getElem?_eq_getElem hik⟩
      obtain ⟨b, off, rfl, hrows⟩ := open_rows HV.out (by show 0 < ks.length; omega)
      obtain ⟨b2, off2, rfl, hrows2⟩ := open_rows HV2.out (by show 0 < ks.length; omega)
      obtain ⟨_, _, _, pk, _, ck, hK⟩ := hrows i k hkk
      obtain ⟨_, _, _, pk2, _, ck2, hK2⟩ := hrows2 i k hkk
      obtain ⟨rfl, rfl, rfl, rfl⟩ := And.intro hK.op' (And.intro hK.n' (And.intro hK.s' hK.len'))
      obtain ⟨rfl, rfl, rfl, rfl⟩ := And.intro hK2.op' (And.intro hK2.n' (And.intro hK2.s' hK2.len'))
      have HK1 := hid' (hK.below HB1.out)
      have HK2 := hid' (hK2.below HB1.out)
      have g0 : decide ((i : Int) < (ks.length : Int)) = true := by simp; omega
      have j1 : (0 : Int) ≤ (i : Int) := by omega
      have j2 : (i : Int) < (ks.length : Int) := by omega
      have j3 : i < ks.length := hik
      have hiw : IntKind.i64.wrap ((i : Int) + 1) = (i : Int) + 1 := IntWalk.i64_in _ (by have := HZ.out; omega)
      have HKK := hid' hkk
      clear hkk hrows hrows2 hK hK2
      go_wp2_with fail
      clear d0 d1 d2 d3 e0 e1 e2 e3
      refine wp_region_chain (fun W => W.heap[w.heap.size]? = some (.cells #[.int .i64 op, .int .i64 n, .string s, .slice (some ⟨b, off, none⟩) ks.length c] 24 (0, 0)) ∧ W.heap[w.heap.size + 1]? = some (.cells #[.int .i64 op, .int .i64 n, .string s, .slice (some ⟨b2, off2, none⟩) ks.length c2] 24 (0, 0)) ∧ KidAt ok W b (off + i * 4) k k.op k.n k.s pk k.ks.length ck ∧ KidAt ok2 W b2 (off2 + i * 4) k k.op k.n k.s pk2 k.ks.length ck2) 12 [false, false, false, false, false, false, false, false, false, false, true, true] (by kernel_rfl) (by kernel_rfl) (by kernel_rfl) ⟨HC1.out, HD1.out, HK1.out.below ((Below.refl _ _).drew), HK2.out.below ((Below.refl _ _).drew)⟩ ?_
      apply wpChain_quiet
      · rfl
      · intro W hW
        obtain ⟨d0, d1, d2, d3⟩ := heap_cells4 hW.1
        obtain ⟨e0, e1, e2, e3⟩ := heap_cells4 hW.2.1
        have a0 := hW.2.2.1.x0
        have a1 := hW.2.2.1.x1
        have a2 := hW.2.2.1.x2
        have a3 := hW.2.2.1.x3
        have b0 := hW.2.2.2.x0
        have b1 := hW.2.2.2.x1
        have b2 := hW.2.2.2.x2
        have b3 := hW.2.2.2.x3
        first | (go_simp; done) | (go_simp; with_reducible rfl)
      simp only [Act.put, List.setIfInBounds_toArray, List.set_cons_zero, List.set_cons_succ]
      apply wpChain_quiet
      · rfl
      · intro W hW
        obtain ⟨d0, d1, d2, d3⟩ := heap_cells4 hW.1
        obtain ⟨e0, e1, e2, e3⟩ := heap_cells4 hW.2.1
        have a0 := hW.2.2.1.x0
        have a1 := hW.2.2.1.x1
        have a2 := hW.2.2.1.x2
        have a3 := hW.2.2.1.x3
        have b0 := hW.2.2.2.x0
        have b1 := hW.2.2.2.x1
        have b2 := hW.2.2.2.x2
        have b3 := hW.2.2.2.x3
        first | (go_simp; done) | (go_simp; with_reducible rfl)
      simp only [Act.put, List.setIfInBounds_toArray, List.set_cons_zero, List.set_cons_succ]
      apply wpChain_quiet
      · rfl
      · intro W hW
        obtain ⟨d0, d1, d2, d3⟩ := heap_cells4 hW.1
        obtain ⟨e0, e1, e2, e3⟩ := heap_cells4 hW.2.1
        have a0 := hW.2.2.1.x0
        have a1 := hW.2.2.1.x1
        have a2 := hW.2.2.1.x2
        have a3 := hW.2.2.1.x3
        have b0 := hW.2.2.2.x0
        have b1 := hW.2.2.2.x1
        have b2 := hW.2.2.2.x2
        have b3 := hW.2.2.2.x3
        first | (go_simp; done) | (go_simp; with_reducible rfl)
      simp only [Act.put, List.setIfInBounds_toArray, List.set_cons_zero, List.set_cons_succ]
      apply wpChain_quiet
      · rfl
      · intro W hW
        obtain ⟨d0, d1, d2, d3⟩ := heap_cells4 hW.1
        obtain ⟨e0, e1, e2, e3⟩ := heap_cells4 hW.2.1
        have a0 := hW.2.2.1.x0
        have a1 := hW.2.2.1.x1
        have a2 := hW.2.2.1.x2
        have a3 := hW.2.2.1.x3
        have b0 := hW.2.2.2.x0
        have b1 := hW.2.2.2.x1
        have b2 := hW.2.2.2.x2
        have b3 := hW.2.2.2.x3
        first | (go_simp; done) | (go_simp; with_reducible rfl)
      simp only [Act.put, List.setIfInBounds_toArray, List.set_cons_zero, List.set_cons_succ]
      apply wpChain_quiet
      · rfl
      · intro W hW
        obtain ⟨d0, d1, d2, d3⟩ := heap_cells4 hW.1
        obtain ⟨e0, e1, e2, e3⟩ := heap_cells4 hW.2.1
        have a0 := hW.2.2.1.x0
        have a1 := hW.2.2.1.x1
        have a2 := hW.2.2.1.x2
        have a3 := hW.2.2.1.x3
        have b0 := hW.2.2.2.x0
        have b1 := hW.2.2.2.x1
        have b2 := hW.2.2.2.x2
        have b3 := hW.2.2.2.x3
        first | (go_simp; done) | (go_simp; with_reducible rfl)
      simp only [Act.put, List.setIfInBounds_toArray, List.set_cons_zero, List.set_cons_succ]
      apply wpChain_quiet
      · rfl
      · intro W hW
        obtain ⟨d0, d1, d2, d3⟩ := heap_cells4 hW.1
        obtain ⟨e0, e1, e2, e3⟩ := heap_cells4 hW.2.1
        have a0 := hW.2.2.1.x0
        have a1 := hW.2.2.1.x1
        have a2 := hW.2.2.1.x2
        have a3 := hW.2.2.1.x3
        have b0 := hW.2.2.2.x0
        have b1 := hW.2.2.2.x1
        have b2 := hW.2.2.2.x2
        have b3 := hW.2.2.2.x3
        first | (go_simp; done) | (go_simp; with_reducible rfl)
      simp only [Act.put, List.setIfInBounds_toArray, List.set_cons_zero, List.set_cons_succ]
      apply wpChain_quiet
      · rfl
      · intro W hW
        obtain ⟨d0, d1, d2, d3⟩ := heap_cells4 hW.1
        obtain ⟨e0, e1, e2, e3⟩ := heap_cells4 hW.2.1
        have a0 := hW.2.2.1.x0
        have a1 := hW.2.2.1.x1
        have a2 := hW.2.2.1.x2
        have a3 := hW.2.2.1.x3
        have b0 := hW.2.2.2.x0
        have b1 := hW.2.2.2.x1
        have b2 := hW.2.2.2.x2
        have b3 := hW.2.2.2.x3
        first | (go_simp; done) | (go_simp; with_reducible rfl)
      simp only [Act.put, List.setIfInBounds_toArray, List.set_cons_zero, List.set_cons_succ]
      apply wpChain_quiet
      · rfl
      · intro W hW
        obtain ⟨d0, d1, d2, d3⟩ := heap_cells4 hW.1
        obtain ⟨e0, e1, e2, e3⟩ := heap_cells4 hW.2.1
        have a0 := hW.2.2.1.x0
        have a1 := hW.2.2.1.x1
        have a2 := hW.2.2.1.x2
        have a3 := hW.2.2.1.x3
        have b0 := hW.2.2.2.x0
        have b1 := hW.2.2.2.x1
        have b2 := hW.2.2.2.x2
        have b3 := hW.2.2.2.x3
        first | (go_simp; done) | (go_simp; with_reducible rfl)
      simp only [Act.put, List.setIfInBounds_toArray, List.set_cons_zero, List.set_cons_succ]
      apply wpChain_quiet
      · rfl
      · intro W hW
        obtain ⟨d0, d1, d2, d3⟩ := heap_cells4 hW.1
        obtain ⟨e0, e1, e2, e3⟩ := heap_cells4 hW.2.1
        have a0 := hW.2.2.1.x0
        have a1 := hW.2.2.1.x1
        have a2 := hW.2.2.1.x2
        have a3 := hW.2.2.1.x3
        have b0 := hW.2.2.2.x0
        have b1 := hW.2.2.2.x1
        have b2 := hW.2.2.2.x2
        have b3 := hW.2.2.2.x3
        first | (go_simp; done) | (go_simp; with_reducible rfl)
      simp only [Act.put, List.setIfInBounds_toArray, List.set_cons_zero, List.set_cons_succ]
      apply wpChain_quiet
      · rfl
      · intro W hW
        obtain ⟨d0, d1, d2, d3⟩ := heap_cells4 hW.1
        obtain ⟨e0, e1, e2, e3⟩ := heap_cells4 hW.2.1
        have a0 := hW.2.2.1.x0
        have a1 := hW.2.2.1.x1
        have a2 := hW.2.2.1.x2
        have a3 := hW.2.2.1.x3
        have b0 := hW.2.2.2.x0
        have b1 := hW.2.2.2.x1
        have b2 := hW.2.2.2.x2
        have b3 := hW.2.2.2.x3
        first | (go_simp; done) | (go_simp; with_reducible rfl)
      simp only [Act.put, List.setIfInBounds_toArray, List.set_cons_zero, List.set_cons_succ]
      have hd : Below wr.heap.size wr wr.drew := (Below.refl _ _).drew
      refine wpChain_call 11 #[.agg #[.int .i64 k.op, .int .i64 k.n, .string k.s, .slice pk k.ks.length ck], .agg #[.int .i64 k.op, .int .i64 k.n, .string k.s, .slice pk2 k.ks.length ck2]] (fun v w' => v = .bool true ∧ Below wr.drew.heap.size wr.drew w') ?_ ?_ ?_ ?_
      · rfl
      · go_simp
      · refine (HIH.out k (List.mem_of_getElem? HKK.out) ok ok2 _ _ wr.drew (HK1.out.below hd).val (HK2.out.below hd).val (HSZ.out k (List.mem_of_getElem? HKK.out))).mono ?_
        rintro e w' ⟨h1, h2⟩
        exact ⟨_, h1, rfl, h2⟩
      rintro v w5 ⟨rfl, b5⟩
      have b5' : Below wr.heap.size wr w5 := hd.trans b5
      refine ⟨.inr ⟨(b5'.block _ (lt_of_block HC1.out)).trans HC1.out, (b5'.block _ (lt_of_block HD1.out)).trans HD1.out, HK1.out.below b5', HK2.out.below b5'⟩, ?_⟩
      simp only [Act.put, List.setIfInBounds_toArray, List.set_cons_zero, List.set_cons_succ]
      refine wpChain_val (v := .bool true) (w' := w5) ?_ ?_ ?_ ?_
      · rfl
      · go_simp
      · exact .inr ⟨(b5'.block _ (lt_of_block HC1.out)).trans HC1.out, (b5'.block _ (lt_of_block HD1.out)).trans HD1.out, HK1.out.below b5', HK2.out.below b5'⟩
      simp only [Act.put, List.setIfInBounds_toArray, List.set_cons_zero, List.set_cons_succ]
      refine wpChain_nil ?_
      have HNX := hid' (HJ.out.trans (b5'.mono HJ.out.size))
      clear b5 b5' hd
      go_wp2_with fail
      go_roundw
      case rel => exact ⟨i + 1, by go_num, by omega, HNX⟩
      case measure => simp only [intOf]; omega
    · obtain rfl : i = ks.length := by omega
      have g0 : decide (ks.length < ks.length) = false := by simp
      clear hik
      go_wp2_with fail
      go_ret
      exact ⟨rfl, HB1.out⟩
end Go.Proofs.YtdbgoibodpacgaaDoor
namespace Go.Proofs.YtdbgoibodpacgaaDoor
open Go.RowKit
set_option linter.unusedVariables false
set_option linter.unusedSimpArgs false
set_option maxRecDepth 100000
/-- shown's term. -/
def shownT : Co.T := .mk 26 0 ⟨#[]⟩ [.mk 7 0 ⟨#[]⟩ [Co.leaf 1 400000, Co.leaf 1 600000], .mk 24 0 ⟨#[69, 85, 82]⟩ []]
theorem shown_fits : Co.fits shownT 3 = true := by kernel_rfl
theorem shown_opt : Co.opt shownT 3 = .mk 24 0 ⟨#[69, 85, 82]⟩ [] := by kernel_rfl
def rowA : Array Value := #[.int .i64 1, .int .i64 400000, .string ⟨#[]⟩, .slice none 0 0, .int .i64 1, .int .i64 600000, .string ⟨#[]⟩, .slice none 0 0]
def rowB (a : Nat) : Array Value := #[.int .i64 7, .int .i64 0, .string ⟨#[]⟩, .slice (some ⟨a, 0, none⟩) 2 2, .int .i64 24, .int .i64 0, .string ⟨#[69, 85, 82]⟩, .slice none 0 0]
theorem shown_in {ok : Nat → Prop} {W : World} {a b : Nat} (ha : W.heap[a]? = some (.cells rowA 24 (0, 0))) (hb : W.heap[b]? = some (.cells (rowB a) 24 (0, 0))) (oa : ok a) (ob : ok b) :
    CoreIn ok W shownT (.agg #[.int .i64 26, .int .i64 0, .string ⟨#[]⟩, .slice (some ⟨b, 0, none⟩) 2 2]) := by
  have ca : ∀ (i : Nat) v, rowA[i]? = some v → W.cell? ⟨a, i, none⟩ = some v := by
    intro i v h
    unfold World.cell?
    simp only [ha]
    exact h
  have cb : ∀ (i : Nat) v, (rowB a)[i]? = some v → W.cell? ⟨b, i, none⟩ = some v := by
    intro i v h
    unfold World.cell?
    simp only [hb]
    exact h
  have i64 : ∀ n : Int, -9223372036854775808 ≤ n ∧ n ≤ 9223372036854775807 → I64 n := fun n h => h
  refine CoreIn.close (ks := [.mk 7 0 ⟨#[]⟩ [Co.leaf 1 400000, Co.leaf 1 600000], .mk 24 0 ⟨#[69, 85, 82]⟩ []]) ⟨Nat.le_refl 2, by decide⟩ (i64 _ (by omega)) (i64 _ (by omega)) (by decide) (fun i k hk => ?_)
  match i with
  | 0 =>
    obtain rfl : _ = k := by simpa using hk
    refine ⟨_, ⟨b, 0, _, _, _, _, rfl, ob, rfl, cb 0 _ rfl, cb 1 _ rfl, cb 2 _ rfl, cb 3 _ rfl⟩, ?_⟩
    refine CoreIn.close (ks := [Co.leaf 1 400000, Co.leaf 1 600000]) ⟨Nat.le_refl 2, by decide⟩ (i64 _ (by omega)) (i64 _ (by omega)) (by decide) (fun i k hk => ?_)
    match i with
    | 0 =>
      obtain rfl : _ = k := by simpa using hk
      exact ⟨_, ⟨a, 0, _, _, _, _, rfl, oa, rfl, ca 0 _ rfl, ca 1 _ rfl, ca 2 _ rfl, ca 3 _ rfl⟩, coreAt_leaf (i64 _ (by omega)) (i64 _ (by omega))⟩
    | 1 =>
      obtain rfl : _ = k := by simpa using hk
      exact ⟨_, ⟨a, 0, _, _, _, _, rfl, oa, rfl, ca 4 _ rfl, ca 5 _ rfl, ca 6 _ rfl, ca 7 _ rfl⟩, coreAt_leaf (i64 _ (by omega)) (i64 _ (by omega))⟩
    | _ + 2 => simp at hk
  | 1 =>
    obtain rfl : _ = k := by simpa using hk
    refine ⟨_, ⟨b, 0, _, _, _, _, rfl, ob, rfl, cb 4 _ rfl, cb 5 _ rfl, cb 6 _ rfl, cb 7 _ rfl⟩, ?_⟩
    exact CoreIn.close (ks := []) ⟨Nat.le_refl _, by unfold maxLen; omega⟩ (i64 _ (by omega)) (i64 _ (by omega)) (by decide) (fun i k e => by simp at e)
  | _ + 2 => simp at hk
set_option maxHeartbeats 4000000 in
theorem optShown_any (w : World) : Calls Tryd.prog 9 #[] w (Gives (.bool true) w) := by
  have h1 := heap_alloc_new w (.cells rowA 24)
  have h2 := heap_alloc_new (w.alloc (.cells rowA 24)) (.cells (rowB w.heap.size) 24)
  have h3 := heap_alloc_new ((w.alloc (.cells rowA 24)).alloc (.cells (rowB w.heap.size) 24)) (.cells #[.int .i64 26, .int .i64 0, .string ⟨#[]⟩, .slice (some ⟨w.heap.size + 1, 0, none⟩) 2 2] 24)
  simp only [World.size_alloc] at h2 h3
  have z1 : ∀ (W : World) (o : Obj) (k : Nat) (x : Obj), W.heap[k]? = some x → (W.alloc o).heap[k]? = some x := fun W o k x h => (((Below.refl W.heap.size W).alloc (Nat.le_refl _) o).block k (lt_of_block h)).trans h
  replace h1 := z1 _ (.cells #[.int .i64 26, .int .i64 0, .string ⟨#[]⟩, .slice (some ⟨w.heap.size + 1, 0, none⟩) 2 2] 24) _ _ (z1 _ (.cells (rowB w.heap.size) 24) _ _ h1)
  replace h2 := z1 _ (.cells #[.int .i64 26, .int .i64 0, .string ⟨#[]⟩, .slice (some ⟨w.heap.size + 1, 0, none⟩) 2 2] 24) _ _ h2
  have hB := (((Below.refl _ w).alloc (Nat.le_refl _) (.cells rowA 24)).alloc (by simp) (.cells (rowB w.heap.size) 24)).alloc (by simp; omega) (.cells #[.int .i64 26, .int .i64 0, .string ⟨#[]⟩, .slice (some ⟨w.heap.size + 1, 0, none⟩) 2 2] 24)
  simp only [rowA, rowB] at h1 h2 h3 hB
  clear z1
  go_enter Tryd.func9, Tryd.ntmps9
  go_upto_region 2 with (fail)
  generalize World.alloc _ _ = w1 at *
  have HB := hid' hB
  have H3 := hid' h3
  have HIN := hid' (shown_in (ok := fun b => b < w1.heap.size) h1 h2 (lt_of_block h1) (lt_of_block h2))
  obtain ⟨c0, c1, c2, c3⟩ := heap_cells4 h3
  clear h1 h2 h3 hB
  go_wp2_with fail
  refine (do_any (fun b => b < w1.heap.size) shownT _ 3 w1 (fun b h => h) HIN.out (by decide)).mono ?_
  rintro e w2 ⟨b2, v, rfl, hv⟩
  rw [shown_opt] at hv
  obtain ⟨p, c, rfl, -⟩ := hv.open
  simp only [Co.T.op, Co.T.n, Co.T.s, Co.T.ks, List.length_nil]
  rw [show Co.optE shownT 3 = 0 by unfold Co.optE; rw [shown_fits]; rfl]
  have HB2 := hid' (HB.out.trans (b2.mono HB.out.size))
  clear b2 hv c0 c1 c2 c3
  have hn := heap_alloc_new w2 (.cells #[.int .i64 24, .int .i64 0, .string ⟨#[69, 85, 82]⟩, .slice p 0 c] 24)
  obtain ⟨n0, n1, n2, n3⟩ := heap_cells4 hn
  clear hn
  go_wp2_with fail
  go_ret
  exact ⟨rfl, HB2.out.trans ((Below.refl w2.heap.size w2).alloc (Nat.le_refl _) _ |>.mono HB2.out.size)⟩
theorem fits_good {t : Co.T} {p : Int} (h : Co.fits t p = true) : t.good ∧ 0 ≤ p ∧ p ≤ 15 := by
  unfold Co.fits at h
  simp only [Bool.and_eq_true, beq_iff_eq, decide_eq_true_eq] at h
  exact ⟨(Co.check_good t).1 h.1, h.2⟩
theorem fits_of {t : Co.T} {p : Int} (h : t.good) (h1 : 0 ≤ p) (h2 : p ≤ 15) : Co.fits t p = true := by
  unfold Co.fits
  rw [(Co.check_good t).2 h]
  simp [h1, h2]
/-- A term in a box of the law's own. -/
theorem box_cells {W : World} {b : Nat} {x y z u : Value} (h : W.heap[b]? = some (.cells #[x, y, z, u] 24 (0, 0))) : (W.cell? ⟨b, 0, none⟩ = some x ∧ W.cell? ⟨b, 1, none⟩ = some y) ∧ W.cell? ⟨b, 2, none⟩ = some z ∧ W.cell? ⟨b, 3, none⟩ = some u := by
  obtain ⟨h0, h1, h2, h3⟩ := heap_cells4 h
  exact ⟨⟨h0, h1⟩, h2, h3⟩
set_option maxHeartbeats 4000000 in
theorem law_twice (t : Co.T) (v : Value) (p : Int) (w : World) (hv : CoreIn (fun b => b < w.heap.size) w t v) (hsz : t.size ≤ 2000000) : Calls Tryd.prog 3 #[v, .int .i64 p] w (True1 w) := by
  obtain ⟨op, n, s, q, ln, c, rfl, hop, hn, hs, hln⟩ := open_term hv
  have HV := hid' hv
  have HSZ := hid' hsz
  have HB0 := hid' ((Below.refl w.heap.size w).alloc (Nat.le_refl _) (.cells #[.int .i64 op, .int .i64 n, .string s, .slice q ln c] 24))
  have HC0 := hid' (heap_alloc_new w (.cells #[.int .i64 op, .int .i64 n, .string s, .slice q ln c] 24))
  clear hop hn hs hln hv hsz
  go_enter Tryd.func3, Tryd.ntmps3
  go_upto_region 1 with (fail)
  generalize World.alloc _ _ = w1 at *
  go_wp2_with fail
  refine (optShown_any _).mono ?_
  rintro e w2 ⟨rfl, b2⟩
  have HB2 := hid' (HB0.out.trans (b2.mono HB0.out.size))
  have HC2 := hid' ((b2.block _ (lt_of_block HC0.out)).trans HC0.out)
  clear b2
  obtain ⟨⟨c0, c1⟩, c2, c3⟩ := box_cells HC2.out
  go_wp2_with fail
  refine (do_any (fun b => b < w.heap.size) t _ p w2 (fun b h => Nat.lt_of_lt_of_le h HB2.out.size) (HV.out.under HB2.out) HSZ.out).mono ?_
  rintro e w3 ⟨b3, va, rfl, ha⟩
  obtain ⟨aop, an, ast, ap, al, ac, rfl, -⟩ := open_term ha
  have HB3 := hid' (HB2.out.trans (b3.mono HB2.out.size))
  have HC3 := hid' ((b3.block _ (lt_of_block HC2.out)).trans HC2.out)
  have HA3 := hid' ha
  clear b3 ha c0 c1 c2 c3
  have hba := (Below.refl w3.heap.size w3).alloc (Nat.le_refl _) (.cells #[.int .i64 aop, .int .i64 an, .string ast, .slice ap al ac] 24)
  have HB4 := hid' (HB3.out.trans (hba.mono HB3.out.size))
  have HC4 := hid' ((hba.block _ (lt_of_block HC3.out)).trans HC3.out)
  have HA4 := hid' (HA3.out.under hba).lt
  have HBA := hid' (heap_alloc_new w3 (.cells #[.int .i64 aop, .int .i64 an, .string ast, .slice ap al ac] 24))
  clear hba
  obtain ⟨ft, hft⟩ : ∃ ft, Hid (Co.fits t p = ft) := ⟨_, hid' rfl⟩
  cases ft with
  | false =>
    rw [show Co.optE t p = 160 by unfold Co.optE; rw [hft.out]; rfl]
    go_wp2_with fail
    go_ret
    exact ⟨rfl, HB4.out⟩
  | true =>
    rw [show Co.optE t p = 0 by unfold Co.optE; rw [hft.out]; rfl]
    have hg := fits_good hft.out
    have HG := hid' hg
    have ea : Co.opt t p = t.rw p := by unfold Co.opt; rw [hft.out]; rfl
    rw [ea] at HA4
    have hga := Co.rw_good (p := p) hg.1
    have HGA := hid' hga
    have HF2 := hid' (fits_of hga hg.2.1 hg.2.2)
    have HF3 := hid' (fits_of hg.1 (Int.le_refl 0) (by decide))
    have HSA := hid' (show (t.rw p).size ≤ 2000000 from Nat.le_trans (Co.rw_spec p t (by rw [hg.1.2.1]; decide)).2.size HSZ.out)
    clear hg ea hga
    go_upto_region 5 with (fail)
    obtain ⟨ab, hab⟩ : ∃ ab, ab = w3.heap.size := ⟨_, rfl⟩
    rw [← hab] at HBA ⊢
    clear hab
    generalize World.alloc w3 _ = w4 at *
    obtain ⟨⟨c0, c1⟩, c2, c3⟩ := box_cells HC4.out
    obtain ⟨⟨a0, a1⟩, a2, a3⟩ := box_cells HBA.out
    go_wp2_with fail
    refine (do_any _ (t.rw p) _ p w4 (fun b h => h.2) HA4.out HSA.out).mono ?_
    rintro e w5 ⟨b5, vb, rfl, hb⟩
    obtain ⟨bop, bn, bs, bp, bl, bc, rfl, -⟩ := open_term hb
    rw [show Co.optE (t.rw p) p = 0 by unfold Co.optE; rw [HF2.out]; rfl]
    rw [show Co.opt (t.rw p) p = t.rw p by unfold Co.opt; rw [HF2.out]; exact Co.rw_twice HG.out.1] at hb
    have hbb := (Below.refl w5.heap.size w5).alloc (Nat.le_refl _) (.cells #[.int .i64 bop, .int .i64 bn, .string bs, .slice bp bl bc] 24)
    have b6 := b5.trans (hbb.mono b5.size)
    have HB6 := hid' (HB4.out.trans (b6.mono HB4.out.size))
    have HC6 := hid' ((b6.block _ (lt_of_block HC4.out)).trans HC4.out)
    have HBA6 := hid' ((b6.block _ (lt_of_block HBA.out)).trans HBA.out)
    have HA6 := hid' (HA4.out.under b6)
    have HVB6 := hid' (hb.under hbb)
    have HBB6 := hid' (heap_alloc_new w5 (.cells #[.int .i64 bop, .int .i64 bn, .string bs, .slice bp bl bc] 24))
    clear b5 hb hbb b6 c0 c1 c2 c3 a0 a1 a2 a3
    go_upto_region 6 with (fail)
    obtain ⟨bb, hbb⟩ : ∃ bb, bb = w5.heap.size := ⟨_, rfl⟩
    rw [← hbb] at HBB6 ⊢
    clear hbb
    generalize World.alloc w5 _ = w6 at *
    obtain ⟨⟨c0, c1⟩, c2, c3⟩ := box_cells HC6.out
    go_wp2_with fail
    refine (do_any (fun b => b < w.heap.size) t _ 0 w6 (fun b h => Nat.lt_of_lt_of_le h HB6.out.size) (HV.out.under HB6.out) HSZ.out).mono ?_
    rintro e w7 ⟨b7, vd, rfl, hd⟩
    obtain ⟨dop, dn, ds, dp, dl, dc, rfl, -⟩ := open_term hd
    rw [show Co.optE t 0 = 0 by unfold Co.optE; rw [HF3.out]; rfl]
    rw [show Co.opt t 0 = t by unfold Co.opt; rw [HF3.out]; exact Co.rw_zero t] at hd
    have hbd := (Below.refl w7.heap.size w7).alloc (Nat.le_refl _) (.cells #[.int .i64 dop, .int .i64 dn, .string ds, .slice dp dl dc] 24)
    have b8 := b7.trans (hbd.mono b7.size)
    have HB8 := hid' (HB6.out.trans (b8.mono HB6.out.size))
    have HC8 := hid' ((b8.block _ (lt_of_block HC6.out)).trans HC6.out)
    have HBA8 := hid' ((b8.block _ (lt_of_block HBA6.out)).trans HBA6.out)
    have HBB8 := hid' ((b8.block _ (lt_of_block HBB6.out)).trans HBB6.out)
    have HA8 := hid' (HA6.out.under b8)
    have HVB8 := hid' (HVB6.out.under b8)
    have HVD8 := hid' (hd.under hbd)
    have HBD8 := hid' (heap_alloc_new w7 (.cells #[.int .i64 dop, .int .i64 dn, .string ds, .slice dp dl dc] 24))
    clear b7 hd hbd b8 c0 c1 c2 c3
    go_upto_region 7 with (fail)
    obtain ⟨db, hdb⟩ : ∃ db, db = w7.heap.size := ⟨_, rfl⟩
    rw [← hdb] at HBD8 ⊢
    clear hdb
    generalize World.alloc w7 _ = w8 at *
    obtain ⟨⟨a0, a1⟩, a2, a3⟩ := box_cells HBA8.out
    obtain ⟨⟨b0, b1⟩, b2, b3⟩ := box_cells HBB8.out
    go_wp2_with fail
    refine (same_any (t.rw p) _ _ _ _ w8 HA8.out HVB8.out HSA.out).mono ?_
    rintro e w9 ⟨rfl, b9⟩
    have HB9 := hid' (HB8.out.trans (b9.mono HB8.out.size))
    have HC9 := hid' ((b9.block _ (lt_of_block HC8.out)).trans HC8.out)
    have HBD9 := hid' ((b9.block _ (lt_of_block HBD8.out)).trans HBD8.out)
    have HVD9 := hid' (HVD8.out.under b9)
    clear b9 a0 a1 a2 a3 b0 b1 b2 b3
    obtain ⟨⟨c0, c1⟩, c2, c3⟩ := box_cells HC9.out
    obtain ⟨⟨d0, d1⟩, d2, d3⟩ := box_cells HBD9.out
    go_wp2_with fail
    refine (same_any t _ _ _ _ w9 (HV.out.under HB9.out) HVD9.out HSZ.out).mono ?_
    rintro e w10 ⟨rfl, b10⟩
    have HB10 := hid' (HB9.out.trans (b10.mono HB9.out.size))
    clear b10
    go_wp2_with fail
    go_ret
    exact ⟨rfl, HB10.out⟩
set_option maxHeartbeats 4000000 in
theorem law_folds (t : Co.T) (v : Value) (w : World) (hv : CoreIn (fun b => b < w.heap.size) w t v) (hsz : t.size ≤ 2000000) : Calls Tryd.prog 4 #[v] w (True1 w) := by
  obtain ⟨op, n, s, q, ln, c, rfl, hop, hn, hs, hln⟩ := open_term hv
  have HV := hid' hv
  have HSZ := hid' hsz
  have HB0 := hid' ((Below.refl w.heap.size w).alloc (Nat.le_refl _) (.cells #[.int .i64 op, .int .i64 n, .string s, .slice q ln c] 24))
  have HC0 := hid' (heap_alloc_new w (.cells #[.int .i64 op, .int .i64 n, .string s, .slice q ln c] 24))
  clear hop hn hs hln hv hsz
  go_enter Tryd.func4, Tryd.ntmps4
  go_upto_region 1 with (fail)
  generalize World.alloc _ _ = w1 at *
  go_wp2_with fail
  refine (optShown_any _).mono ?_
  rintro e w2 ⟨rfl, b2⟩
  have HB2 := hid' (HB0.out.trans (b2.mono HB0.out.size))
  have HC2 := hid' ((b2.block _ (lt_of_block HC0.out)).trans HC0.out)
  clear b2
  obtain ⟨⟨c0, c1⟩, c2, c3⟩ := box_cells HC2.out
  go_wp2_with fail
  refine (do_any (fun b => b < w.heap.size) t _ 7 w2 (fun b h => Nat.lt_of_lt_of_le h HB2.out.size) (HV.out.under HB2.out) HSZ.out).mono ?_
  rintro e w3 ⟨b3, va, rfl, ha⟩
  obtain ⟨aop, an, ast, ap, al, ac, rfl, -⟩ := open_term ha
  have HB3 := hid' (HB2.out.trans (b3.mono HB2.out.size))
  have HC3 := hid' ((b3.block _ (lt_of_block HC2.out)).trans HC2.out)
  have HA3 := hid' ha
  clear b3 ha c0 c1 c2 c3
  have hba := (Below.refl w3.heap.size w3).alloc (Nat.le_refl _) (.cells #[.int .i64 aop, .int .i64 an, .string ast, .slice ap al ac] 24)
  have HB4 := hid' (HB3.out.trans (hba.mono HB3.out.size))
  have HC4 := hid' ((hba.block _ (lt_of_block HC3.out)).trans HC3.out)
  have HA4 := hid' (HA3.out.under hba)
  have HBA := hid' (heap_alloc_new w3 (.cells #[.int .i64 aop, .int .i64 an, .string ast, .slice ap al ac] 24))
  clear hba
  obtain ⟨ft, hft⟩ : ∃ ft, Hid (Co.fits t 7 = ft) := ⟨_, hid' rfl⟩
  cases ft with
  | false =>
    rw [show Co.optE t 7 = 160 by unfold Co.optE; rw [hft.out]; rfl]
    go_wp2_with fail
    go_ret
    exact ⟨rfl, HB4.out⟩
  | true =>
    rw [show Co.optE t 7 = 0 by unfold Co.optE; rw [hft.out]; rfl]
    have hg := fits_good hft.out
    have HG := hid' hg
    have ea : Co.opt t 7 = t.rw 7 := by unfold Co.opt; rw [hft.out]; rfl
    rw [ea] at HA4
    have HSA := hid' (show (t.rw 7).size ≤ 2000000 from Nat.le_trans (Co.rw_spec 7 t (by rw [hg.1.2.1]; decide)).2.size HSZ.out)
    clear hg ea
    go_upto_region 5 with (fail)
    obtain ⟨ab, hab⟩ : ∃ ab, ab = w3.heap.size := ⟨_, rfl⟩
    rw [← hab] at HBA ⊢
    clear hab
    generalize World.alloc w3 _ = w4 at *
    obtain ⟨⟨c0, c1⟩, c2, c3⟩ := box_cells HC4.out
    go_wp2_with fail
    refine (still_any t _ _ w4 (HV.out.under HB4.out) HSZ.out).mono ?_
    rintro e w5 ⟨rfl, b5⟩
    have HB5 := hid' (HB4.out.trans (b5.mono HB4.out.size))
    have HBA5 := hid' ((b5.block _ (lt_of_block HBA.out)).trans HBA.out)
    have HA5 := hid' (HA4.out.under b5)
    clear b5 c0 c1 c2 c3
    obtain ⟨⟨a0, a1⟩, a2, a3⟩ := box_cells HBA5.out
    obtain ⟨st, hst⟩ : ∃ st, Hid (t.still = st) := ⟨_, hid' rfl⟩
    rw [hst.out]
    cases st with
    | false =>
      go_wp2_with fail
      go_ret
      exact ⟨rfl, HB5.out⟩
    | true =>
      go_wp2_with fail
      refine (done_any (t.rw 7) _ _ w5 HA5.out HSA.out).mono ?_
      rintro e w6 ⟨rfl, b6⟩
      have HB6 := hid' (HB5.out.trans (b6.mono HB5.out.size))
      rw [Co.rw_done HG.out.1 hst.out]
      clear b6
      go_wp2_with fail
      go_ret
      exact ⟨rfl, HB6.out⟩
end Go.Proofs.YtdbgoibodpacgaaDoor
