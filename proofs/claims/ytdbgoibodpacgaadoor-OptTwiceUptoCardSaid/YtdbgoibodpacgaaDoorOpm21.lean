/- Proved: lemmas and contracts of the functions that the law reaches, part 21 of 23: OptLater, OptChosen, OptIdle. Conditions: as each states. -/
import Derived.Deep.RegionHeld3
import Derived.Deep.DeepCutAuto
import Derived.Test.YtdbgoibodpacgaaDoorOpm6
import Derived.Test.YtdbgoibodpacgaaDoorOpm20
namespace Go.Proofs.YtdbgoibodpacgaaDoor
open Go.RowKit
set_option linter.unusedVariables false
set_option linter.unusedSimpArgs false
set_option maxRecDepth 100000
theorem grown_cell {W W' : World} {b o B : Nat} {v : Value} (g : W.grownBy W' (some B)) (hne : b ≠ B) (h : W.cell? ⟨b, o, none⟩ = some v) : W'.cell? ⟨b, o, none⟩ = some v := by
  have hl := World.block_lt_of_cell? W _ h
  have hg := g.block b hl (fun e => by cases e; exact hne rfl)
  unfold World.cell? at *
  simp only at *
  rw [hg]
  exact h
theorem later_value {ok : Nat → Prop} {W : World} {t k : Co.T} {op n : Int} {s : ByteArray} {p : Option Addr} {len c : Nat} {kop kn : Int} {ks : ByteArray} {kp : Option Addr} {klen kc : Nat} (ht : CoreIn ok W t (.agg #[.int .i64 op, .int .i64 n, .string s, .slice p len c]))
    (hk : CoreIn ok W k (.agg #[.int .i64 kop, .int .i64 kn, .string ks, .slice kp klen kc])) (hl : k.ks.length = klen) (hn : t.n = n) : CoreIn ok W (.mk 29 (max n kn) ⟨#[]⟩ k.ks) (.agg #[.int .i64 29, .int .i64 (max n kn), .string ⟨#[]⟩, .slice kp klen kc]) := by
  obtain ⟨p', c', e, hc, ho, hn', hs, hkk⟩ := hk.open
  obtain ⟨_, _, _, _, _, htn, _, _⟩ := ht.open
  have e1 : kn = k.n ∧ kp = p' ∧ kc = c' := by simp at e; exact ⟨e.2.1, e.2.2.2.1, e.2.2.2.2.2⟩
  obtain ⟨rfl, rfl, rfl⟩ := e1
  subst hl
  refine CoreIn.close hc (by unfold I64; omega) ?_ (by decide) hkk
  rw [hn] at htn
  unfold I64 at *
  omega
set_option maxHeartbeats 4000000 in
theorem optLater_any (ok : Nat → Prop) (t : Co.T) (v : Value) (w : World) (hv : CoreIn ok w t v) (hx : t.letter ≠ 0) (h0 : 0 < t.ks.length) :
    Calls Tryd.prog 43 #[v] w (TermOut ok (Co.later t) w) := by
  obtain ⟨op, n, s, p, ln, c, rfl, hop, hn, hs, hln⟩ := open_term hv
  have HV := hid' hv
  obtain ⟨bl, off, rfl, hrows⟩ := open_rows hv h0
  have hb0 := heap_alloc_new w (.cells #[.int .i64 op, .int .i64 n, .string s, .slice (some ⟨bl, off, none⟩) ln c] 24)
  have hr0 := heap_alloc_new (w.alloc (.cells #[.int .i64 op, .int .i64 n, .string s, .slice (some ⟨bl, off, none⟩) ln c] 24)) (.cells #[.int .i64 0, .int .i64 0, .string ⟨#[]⟩, .slice none 0 0] 24)
  simp only [World.size_alloc] at hr0
  have hB0 : Below w.heap.size w ((w.alloc (.cells #[.int .i64 op, .int .i64 n, .string s, .slice (some ⟨bl, off, none⟩) ln c] 24)).alloc (.cells #[.int .i64 0, .int .i64 0, .string ⟨#[]⟩, .slice none 0 0] 24)) := ((Below.refl w.heap.size w).alloc (Nat.le_refl _) _).alloc (by simp) _
  have hc0 := (((Below.refl _ (w.alloc (.cells #[.int .i64 op, .int .i64 n, .string s, .slice (some ⟨bl, off, none⟩) ln c] 24))).alloc (Nat.le_refl _) (.cells #[.int .i64 0, .int .i64 0, .string ⟨#[]⟩, .slice none 0 0] 24)).block w.heap.size (by simp)).trans hb0
  have j0 : (0 : Int) < (ln : Int) := by omega
  have HOP := hid' hop
  have HN := hid' hn
  have HLN := hid' hln
  have HROWS := hid' hrows
  have HX := hid' hx
  have H0 := hid' h0
  clear hb0 hop hn hs hln hrows hx h0 hv
  go_enter Tryd.func43, Tryd.ntmps43
  go_upto_region 1 with (fail)
  generalize World.alloc _ _ = w1 at *
  have HB0 := hid' hB0
  have HR0 := hid' hr0
  have HC0 := hid' hc0
  obtain ⟨k, kat⟩ : ∃ k, t.ks[0]? = some k := ⟨_, List.getElem?_eq_getElem H0.out⟩
  obtain ⟨kop, kn, ks, kp, klen, kc, kH⟩ := HROWS.out 0 k kat
  have kK := hid' (kH.below hB0)
  have kV := hid' kH.val
  have kLT := hid' kH.lt
  clear kH
  clear hr0 hB0
  obtain ⟨d0, d1, d2, d3⟩ := heap_cells4 HC0.out
  have KAT := hid' kat
  clear hc0 kat
  have kx0 := kK.out.x0
  have kx1 := kK.out.x1
  have kx2 := kK.out.x2
  have kx3 := kK.out.x3
  simp only [Nat.zero_mul, Nat.add_zero, Nat.one_mul] at kx0 kx1 kx2 kx3
  have eK : t.kid 0 = k := by unfold Co.T.kid; rw [KAT.out]; rfl
  have HD := hid' (show Co.later t = if op = 29 ∧ kop = 29 then some (.mk 29 (max n kn) ⟨#[]⟩ k.ks) else none by
    unfold Co.later
    rw [eK, HOP.out, HN.out, kK.out.op', kK.out.n'])
  clear eK
  by_cases h : op = 29
  · subst h
    by_cases hk : kop = 29
    · subst hk
      have HF := hid' (show Co.later t = some (.mk 29 (max n kn) ⟨#[]⟩ k.ks) by rw [HD.out]; exact if_pos ⟨rfl, rfl⟩)
      go_upto_region 3 with (fail)
      have HKX := hid' (And.intro kK.out.lt (And.intro kx1 kx3))
      clear d0 d1 d2 d3 kx0 kx1 kx2 kx3
      have HCN := hid' (show w.heap.size ≠ w.heap.size + 1 by omega)
      have HBN := hid' (show bl ≠ w.heap.size + 1 by have h5 := kLT.out; omega)
      refine wp_region_keepQ (fun d w' => w1.grownBy w' (some (w.heap.size + 1)) ∧ w'.heap[w.heap.size + 1]? = some (.cells (bif d then #[.int .i64 29, .int .i64 (max n kn), .string ⟨#[]⟩, .slice kp klen kc] else #[.int .i64 0, .int .i64 0, .string ⟨#[]⟩, .slice none 0 0]) 24 (0, 0))) 14 (by kernel_rfl) (by kernel_rfl) (by kernel_rfl) (by kernel_rfl) (by decide) ⟨Rw.grown_of_below (Below.refl _ _).drew _, HR0.out⟩ ?_
      repeat (first
        | (refine wpQ_skip ?_ ?_ ?_
           · exact Option.some_ne_none _
           · rfl
           simp only [Act.put, List.setIfInBounds_toArray, List.set_cons_zero, List.set_cons_succ])
        | (refine wpQ_store ?_ ?_ ?_ ?_
           · rfl
           · rfl
           · (intro W hSw; have j0n : 0 < ln := (by omega); obtain ⟨d0, d1, d2, d3⟩ := heap_cells4 (Rw.box_grown hSw.1 HCN.out HC0.out); have kx1 := grown_cell hSw.1 HBN.out HKX.out.2.1; have kx3 := grown_cell hSw.1 HBN.out HKX.out.2.2; obtain ⟨r0, r1, r2, r3⟩ := heap_cells4 hSw.2; have f0 : ∀ o, W.frozen? ⟨w.heap.size + 1, o, none⟩ = false := fun o => Rw.frozen_of hSw.2; refine ⟨((((W.setCell ⟨(w.heap.size + 1), 0, none⟩ (.int .i64 29)).setCell ⟨(w.heap.size + 1), 1, none⟩ (.int .i64 (max n kn))).setCell ⟨(w.heap.size + 1), 2, none⟩ (.string ⟨#[]⟩)).setCell ⟨(w.heap.size + 1), 3, none⟩ (.slice kp klen kc)), ?_, ?_⟩; (focus (first | (go_simp; done) | (go_simp; with_reducible rfl))); exact ⟨Rw.grown_trans hSw.1 (grown4 W (w.heap.size + 1) _ _ _ _), (set4 hSw.2 _ _ _ _).1⟩))
        | (apply wpQ_val
           · exact Option.some_ne_none _
           · rfl
           · (intro d W hSw; have j0n : 0 < ln := (by omega); obtain ⟨d0, d1, d2, d3⟩ := heap_cells4 (Rw.box_grown hSw.1 HCN.out HC0.out); have kx1 := grown_cell hSw.1 HBN.out HKX.out.2.1; have kx3 := grown_cell hSw.1 HBN.out HKX.out.2.2; first | (go_simp; done) | (go_simp; with_reducible rfl))
           simp only [Act.put, List.setIfInBounds_toArray, List.set_cons_zero, List.set_cons_succ]))
      refine wpQ_nil ?_
      intro w3 hS'
      obtain ⟨hg3, hbx⟩ := hS'
      have hbb := Rw.below_grown HB0.out hg3 (by omega) HB0.out.size
      obtain ⟨y0, y1, y2, y3⟩ := heap_cells4 hbx
      have HY := hid' (And.intro y0 (And.intro y1 (And.intro y2 y3)))
      clear y0 y1 y2 y3 hbx hg3
      go_wp2_with fail
      obtain ⟨y0, y1, y2, y3⟩ := HY.out
      refine bodyPost_ret (v := .tuple #[.agg #[.int .i64 29, .int .i64 (max n kn), .string ⟨#[]⟩, .slice kp klen kc], .bool true]) (by simp [results, Tryd.results43, go_sem, y0, y1, y2, y3]) rfl ?_
      refine ⟨hbb, _, _, by rw [HF.out]; rfl, ?_, fun x h => by rw [HF.out] at h; cases h; rfl⟩
      exact ((later_value HV.out kV.out kK.out.len' HN.out).under hbb).old
    · have HF := hid' (show Co.later t = none by rw [HD.out]; exact if_neg (fun h => hk h.2))
      have gk : (kop != 29) = true := by simpa using hk
      clear hk
      have HS := hid' (set4 HR0.out (.int .i64 29) (.int .i64 n) (.string s) (.slice (some ⟨bl, off, none⟩) ln c))
      obtain ⟨r0, r1, r2, r3⟩ := heap_cells4 HR0.out
      have f0 : ∀ o, w1.frozen? ⟨w.heap.size + 1, o, none⟩ = false := fun o => Rw.frozen_of HR0.out
      go_wp2_with fail
      obtain ⟨hbx, hbl⟩ := HS.out
      generalize World.setCell _ _ _ = w9 at *
      obtain ⟨y0, y1, y2, y3⟩ := heap_cells4 hbx
      refine bodyPost_ret (v := .tuple #[.agg #[.int .i64 29, .int .i64 n, .string s, .slice (some ⟨bl, off, none⟩) ln c], .bool false]) (by simp [results, Tryd.results43, go_sem, y0, y1, y2, y3]) rfl ?_
      have hbb := HB0.out.trans (hbl w.heap.size (by omega))
      exact ⟨hbb, t, _, by rw [HF.out]; rfl, (HV.out.under hbb).old, fun x h => by rw [HF.out] at h; cases h⟩
  · have HF := hid' (show Co.later t = none by rw [HD.out]; exact if_neg (fun h' => h h'.1))
    have gk : (op != 29) = true := by simpa using h
    clear h
    have HS := hid' (set4 HR0.out (.int .i64 op) (.int .i64 n) (.string s) (.slice (some ⟨bl, off, none⟩) ln c))
    obtain ⟨r0, r1, r2, r3⟩ := heap_cells4 HR0.out
    have f0 : ∀ o, w1.frozen? ⟨w.heap.size + 1, o, none⟩ = false := fun o => Rw.frozen_of HR0.out
    go_wp2_with fail
    obtain ⟨hbx, hbl⟩ := HS.out
    generalize World.setCell _ _ _ = w9 at *
    obtain ⟨y0, y1, y2, y3⟩ := heap_cells4 hbx
    refine bodyPost_ret (v := .tuple #[.agg #[.int .i64 op, .int .i64 n, .string s, .slice (some ⟨bl, off, none⟩) ln c], .bool false]) (by simp [results, Tryd.results43, go_sem, y0, y1, y2, y3]) rfl ?_
    have hbb := HB0.out.trans (hbl w.heap.size (by omega))
    exact ⟨hbb, t, _, by rw [HF.out]; rfl, (HV.out.under hbb).old, fun x h => by rw [HF.out] at h; cases h⟩
end Go.Proofs.YtdbgoibodpacgaaDoor
namespace Go.Proofs.YtdbgoibodpacgaaDoor
open Go.RowKit
set_option linter.unusedVariables false
set_option linter.unusedSimpArgs false
set_option maxRecDepth 100000
theorem Co.chosen_kids {t : Co.T} (h : t.op = 22 ∨ t.op = 28) (h2 : (t.kid 0).op = 2) (hx : t.letter ≠ 0) : ∃ i j, (((t.kid 0).n = 1 ∧ i = 1) ∨ ((t.kid 0).n = 0 ∧ i = 2)) ∧ t.ks[i]? = some j ∧ t.kid (2 - (t.kid 0).n).toNat = j := by
  have h3 : ∃ k j i, t.ks = [k, j, i] ∧ k.letter = 98 ∧ t.kid 0 = k ∧ t.kid 1 = j ∧ t.kid 2 = i := by
    rcases h with e | e
    · obtain ⟨o, n, s, ks⟩ := t
      have ee : o = 22 := e
      subst ee
      obtain ⟨a, b, c, rfl, l1, -⟩ := (Co.letter_22 hx).1 rfl
      exact ⟨a, b, c, rfl, l1, rfl, rfl, rfl⟩
    · obtain ⟨h1, -, -⟩ := Co.open_kids (t := t) (by rw [e]; decide) (by rw [e]; exact Co.want_28) hx
      obtain ⟨k, j, i, a1, a2, a3, a4, a5⟩ := Co.three_kids h1
      exact ⟨k, j, i, a1, a2.1, a3, a4, a5⟩
  obtain ⟨k, j, i, a1, l1, a3, a4, a5⟩ := h3
  rw [a3] at h2 ⊢
  obtain ⟨-, -, hf⟩ := Co.open_kids (t := k) (by rw [h2]; decide) (by rw [h2]; exact Co.want_2) (by rw [l1]; decide)
  rw [h2] at hf
  rcases Co.bool_of hf with e | e
  · exact ⟨2, i, .inr ⟨e, rfl⟩, by rw [a1]; rfl, by rw [e]; exact a5⟩
  · exact ⟨1, j, .inl ⟨e, rfl⟩, by rw [a1]; rfl, by rw [e]; exact a4⟩
set_option maxHeartbeats 4000000 in
theorem optChosen_any (ok : Nat → Prop) (t : Co.T) (v : Value) (w : World) (hv : CoreIn ok w t v) (hx : t.letter ≠ 0) (h0 : 0 < t.ks.length) :
    Calls Tryd.prog 44 #[v] w (TermOut ok (Co.chosen t) w) := by
  obtain ⟨op, n, s, p, ln, c, rfl, hop, hn, hs, hln⟩ := open_term hv
  have HV := hid' hv
  obtain ⟨bl, off, rfl, hrows⟩ := open_rows hv h0
  have hb0 := heap_alloc_new w (.cells #[.int .i64 op, .int .i64 n, .string s, .slice (some ⟨bl, off, none⟩) ln c] 24)
  have hr0 := heap_alloc_new (w.alloc (.cells #[.int .i64 op, .int .i64 n, .string s, .slice (some ⟨bl, off, none⟩) ln c] 24)) (.cells #[.int .i64 0, .int .i64 0, .string ⟨#[]⟩, .slice none 0 0] 24)
  simp only [World.size_alloc] at hr0
  have hB0 : Below w.heap.size w ((w.alloc (.cells #[.int .i64 op, .int .i64 n, .string s, .slice (some ⟨bl, off, none⟩) ln c] 24)).alloc (.cells #[.int .i64 0, .int .i64 0, .string ⟨#[]⟩, .slice none 0 0] 24)) := ((Below.refl w.heap.size w).alloc (Nat.le_refl _) _).alloc (by simp) _
  have hc0 := (((Below.refl _ (w.alloc (.cells #[.int .i64 op, .int .i64 n, .string s, .slice (some ⟨bl, off, none⟩) ln c] 24))).alloc (Nat.le_refl _) (.cells #[.int .i64 0, .int .i64 0, .string ⟨#[]⟩, .slice none 0 0] 24)).block w.heap.size (by simp)).trans hb0
  have j0 : (0 : Int) < (ln : Int) := by omega
  have HOP := hid' hop
  have HN := hid' hn
  have HLN := hid' hln
  have HROWS := hid' hrows
  have HX := hid' hx
  have H0 := hid' h0
  clear hb0 hop hn hs hln hrows hx h0 hv
  go_enter Tryd.func44, Tryd.ntmps44
  go_upto_region 1 with (fail)
  generalize World.alloc _ _ = w1 at *
  have HB0 := hid' hB0
  have HR0 := hid' hr0
  have HC0 := hid' hc0
  obtain ⟨k, kat⟩ : ∃ k, t.ks[0]? = some k := ⟨_, List.getElem?_eq_getElem H0.out⟩
  obtain ⟨kop, kn, ks, kp, klen, kc, kH⟩ := HROWS.out 0 k kat
  have kK := hid' (kH.below hB0)
  have kV := hid' kH.val
  clear kH
  clear hr0 hB0
  obtain ⟨d0, d1, d2, d3⟩ := heap_cells4 HC0.out
  have KAT := hid' kat
  clear hc0 kat
  have kx0 := kK.out.x0
  have kx1 := kK.out.x1
  have kx2 := kK.out.x2
  have kx3 := kK.out.x3
  simp only [Nat.zero_mul, Nat.add_zero, Nat.one_mul] at kx0 kx1 kx2 kx3
  go_upto_region 2 with (fail)
  clear d0 d1 d2 d3 kx0 kx1 kx2 kx3
  have hB1 : Below w1.heap.size w1 (w1.alloc (.cells #[.int .i64 kop, .int .i64 kn, .string ks, .slice kp klen kc] 24)) := (Below.refl _ _).alloc (Nat.le_refl _) _
  have HC1 := hid' ((hB1.block _ (lt_of_block HC0.out)).trans HC0.out)
  have HR1 := hid' ((hB1.block _ (lt_of_block HR0.out)).trans HR0.out)
  have HK1 := hid' (heap_alloc_new w1 (.cells #[.int .i64 kop, .int .i64 kn, .string ks, .slice kp klen kc] 24))
  have HB1 := hid' (HB0.out.trans (hB1.mono HB0.out.size))
  have hlt := lt_of_block HR0.out
  obtain ⟨kb, hkb⟩ : ∃ kb, kb = w1.heap.size := ⟨_, rfl⟩
  rw [← hkb] at HK1 hlt ⊢
  have HCN := hid' (show w.heap.size ≠ w.heap.size + 1 by omega)
  have HKN := hid' (show kb ≠ w.heap.size + 1 by omega)
  clear hB1 hkb
  generalize World.alloc w1 _ = w2 at *
  have eK : t.kid 0 = k := by unfold Co.T.kid; rw [KAT.out]; rfl
  have HD := hid' (show Co.chosen t = if (op = 22 ∨ op = 28) ∧ kop = 2 then some (t.kid (2 - kn).toNat) else none by
    unfold Co.chosen
    rw [eK, HOP.out, kK.out.op', kK.out.n'])
  obtain ⟨d0, d1, d2, d3⟩ := heap_cells4 HC1.out
  obtain ⟨e0, e1, e2, e3⟩ := heap_cells4 HK1.out
  by_cases h : op = 22 ∨ op = 28
  · by_cases hk2 : kop = 2
    · subst hk2
      have h3 := Co.chosen_kids (by rw [HOP.out]; exact h) (by rw [eK, kK.out.op']) HX.out
      rw [eK, kK.out.n'] at h3
      obtain ⟨i, j, hi, hj, hkj⟩ := h3
      obtain ⟨jop, jn, js, jp, jlen, jc, jH⟩ := HROWS.out i j hj
      have jV := hid' jH.val
      have JK := hid' (jH.below HB1.out)
      have HF := hid' (show Co.chosen t = some j by rw [HD.out, if_pos ⟨h, rfl⟩, hkj])
      have hil : i < ln := by rw [← HLN.out]; exact (List.getElem?_eq_some_iff.1 hj).1
      clear hj hkj jH eK
      have jx0 := JK.out.x0
      have jx1 := JK.out.x1
      have jx2 := JK.out.x2
      have jx3 := JK.out.x3
      rcases h with rfl | rfl
      · rcases hi with ⟨rfl, rfl⟩ | ⟨rfl, rfl⟩
        · have j1 : ((1 : Nat) : Int) < (ln : Int) := by omega
          have j2 : (1 : Int) < (ln : Int) := by omega
          have j3 : IntKind.i64.wrap (2 - 1) = 1 := by decide
          simp only [Nat.reduceMul] at jx0 jx1 jx2 jx3
          have HS := hid' (set4 HR1.out (.int .i64 jop) (.int .i64 jn) (.string js) (.slice jp jlen jc))
          obtain ⟨r0, r1, r2, r3⟩ := heap_cells4 HR1.out
          have f0 : ∀ o, w2.frozen? ⟨w.heap.size + 1, o, none⟩ = false := fun o => Rw.frozen_of HR1.out
          go_wp2_with fail
          obtain ⟨hbx, hbl⟩ := HS.out
          generalize World.setCell _ _ _ = w9 at *
          obtain ⟨y0, y1, y2, y3⟩ := heap_cells4 hbx
          refine bodyPost_ret (v := .tuple #[.agg #[.int .i64 jop, .int .i64 jn, .string js, .slice jp jlen jc], .bool true]) (by simp [results, Tryd.results44, go_sem, y0, y1, y2, y3]) rfl ?_
          have hbb := HB1.out.trans (hbl w.heap.size (by omega))
          exact ⟨hbb, j, _, by rw [HF.out]; rfl, (jV.out.under hbb).old, fun x h => by rw [HF.out] at h; cases h; rfl⟩
        · have j1 : ((2 : Nat) : Int) < (ln : Int) := by omega
          have j2 : (2 : Int) < (ln : Int) := by omega
          have j3 : IntKind.i64.wrap (2 - 0) = 2 := by decide
          simp only [Nat.reduceMul] at jx0 jx1 jx2 jx3
          have HS := hid' (set4 HR1.out (.int .i64 jop) (.int .i64 jn) (.string js) (.slice jp jlen jc))
          obtain ⟨r0, r1, r2, r3⟩ := heap_cells4 HR1.out
          have f0 : ∀ o, w2.frozen? ⟨w.heap.size + 1, o, none⟩ = false := fun o => Rw.frozen_of HR1.out
          go_wp2_with fail
          obtain ⟨hbx, hbl⟩ := HS.out
          generalize World.setCell _ _ _ = w9 at *
          obtain ⟨y0, y1, y2, y3⟩ := heap_cells4 hbx
          refine bodyPost_ret (v := .tuple #[.agg #[.int .i64 jop, .int .i64 jn, .string js, .slice jp jlen jc], .bool true]) (by simp [results, Tryd.results44, go_sem, y0, y1, y2, y3]) rfl ?_
          have hbb := HB1.out.trans (hbl w.heap.size (by omega))
          exact ⟨hbb, j, _, by rw [HF.out]; rfl, (jV.out.under hbb).old, fun x h => by rw [HF.out] at h; cases h; rfl⟩
      · rcases hi with ⟨rfl, rfl⟩ | ⟨rfl, rfl⟩
        · have j1 : ((1 : Nat) : Int) < (ln : Int) := by omega
          have j2 : (1 : Int) < (ln : Int) := by omega
          have j3 : IntKind.i64.wrap (2 - 1) = 1 := by decide
          simp only [Nat.reduceMul] at jx0 jx1 jx2 jx3
          have HS := hid' (set4 HR1.out (.int .i64 jop) (.int .i64 jn) (.string js) (.slice jp jlen jc))
          obtain ⟨r0, r1, r2, r3⟩ := heap_cells4 HR1.out
          have f0 : ∀ o, w2.frozen? ⟨w.heap.size + 1, o, none⟩ = false := fun o => Rw.frozen_of HR1.out
          go_wp2_with fail
          obtain ⟨hbx, hbl⟩ := HS.out
          generalize World.setCell _ _ _ = w9 at *
          obtain ⟨y0, y1, y2, y3⟩ := heap_cells4 hbx
          refine bodyPost_ret (v := .tuple #[.agg #[.int .i64 jop, .int .i64 jn, .string js, .slice jp jlen jc], .bool true]) (by simp [results, Tryd.results44, go_sem, y0, y1, y2, y3]) rfl ?_
          have hbb := HB1.out.trans (hbl w.heap.size (by omega))
          exact ⟨hbb, j, _, by rw [HF.out]; rfl, (jV.out.under hbb).old, fun x h => by rw [HF.out] at h; cases h; rfl⟩
        · have j1 : ((2 : Nat) : Int) < (ln : Int) := by omega
          have j2 : (2 : Int) < (ln : Int) := by omega
          have j3 : IntKind.i64.wrap (2 - 0) = 2 := by decide
          simp only [Nat.reduceMul] at jx0 jx1 jx2 jx3
          have HS := hid' (set4 HR1.out (.int .i64 jop) (.int .i64 jn) (.string js) (.slice jp jlen jc))
          obtain ⟨r0, r1, r2, r3⟩ := heap_cells4 HR1.out
          have f0 : ∀ o, w2.frozen? ⟨w.heap.size + 1, o, none⟩ = false := fun o => Rw.frozen_of HR1.out
          go_wp2_with fail
          obtain ⟨hbx, hbl⟩ := HS.out
          generalize World.setCell _ _ _ = w9 at *
          obtain ⟨y0, y1, y2, y3⟩ := heap_cells4 hbx
          refine bodyPost_ret (v := .tuple #[.agg #[.int .i64 jop, .int .i64 jn, .string js, .slice jp jlen jc], .bool true]) (by simp [results, Tryd.results44, go_sem, y0, y1, y2, y3]) rfl ?_
          have hbb := HB1.out.trans (hbl w.heap.size (by omega))
          exact ⟨hbb, j, _, by rw [HF.out]; rfl, (jV.out.under hbb).old, fun x h => by rw [HF.out] at h; cases h; rfl⟩
    · have HF := hid' (show Co.chosen t = none by rw [HD.out]; exact if_neg (fun h => hk2 h.2))
      have gk : (kop != 2) = true := by simpa using hk2
      clear hk2 eK
      rcases h with rfl | rfl
      · skip
        have HS := hid' (set4 HR1.out (.int .i64 22) (.int .i64 n) (.string s) (.slice (some ⟨bl, off, none⟩) ln c))
        obtain ⟨r0, r1, r2, r3⟩ := heap_cells4 HR1.out
        have f0 : ∀ o, w2.frozen? ⟨w.heap.size + 1, o, none⟩ = false := fun o => Rw.frozen_of HR1.out
        go_wp2_with fail
        obtain ⟨hbx, hbl⟩ := HS.out
        generalize World.setCell _ _ _ = w9 at *
        obtain ⟨y0, y1, y2, y3⟩ := heap_cells4 hbx
        refine bodyPost_ret (v := .tuple #[.agg #[.int .i64 22, .int .i64 n, .string s, .slice (some ⟨bl, off, none⟩) ln c], .bool false]) (by simp [results, Tryd.results44, go_sem, y0, y1, y2, y3]) rfl ?_
        have hbb := HB1.out.trans (hbl w.heap.size (by omega))
        exact ⟨hbb, t, _, by rw [HF.out]; rfl, (HV.out.under hbb).old, fun x h => by rw [HF.out] at h; cases h⟩
      · skip
        have HS := hid' (set4 HR1.out (.int .i64 28) (.int .i64 n) (.string s) (.slice (some ⟨bl, off, none⟩) ln c))
        obtain ⟨r0, r1, r2, r3⟩ := heap_cells4 HR1.out
        have f0 : ∀ o, w2.frozen? ⟨w.heap.size + 1, o, none⟩ = false := fun o => Rw.frozen_of HR1.out
        go_wp2_with fail
        obtain ⟨hbx, hbl⟩ := HS.out
        generalize World.setCell _ _ _ = w9 at *
        obtain ⟨y0, y1, y2, y3⟩ := heap_cells4 hbx
        refine bodyPost_ret (v := .tuple #[.agg #[.int .i64 28, .int .i64 n, .string s, .slice (some ⟨bl, off, none⟩) ln c], .bool false]) (by simp [results, Tryd.results44, go_sem, y0, y1, y2, y3]) rfl ?_
        have hbb := HB1.out.trans (hbl w.heap.size (by omega))
        exact ⟨hbb, t, _, by rw [HF.out]; rfl, (HV.out.under hbb).old, fun x h => by rw [HF.out] at h; cases h⟩
  · have HF := hid' (show Co.chosen t = none by rw [HD.out]; exact if_neg (fun h' => h h'.1))
    simp only [not_or] at h
    have q22 : (op != 22) = true := by simpa using h.1
    have q28 : (op != 28) = true := by simpa using h.2
    clear h eK
    have HS := hid' (set4 HR1.out (.int .i64 op) (.int .i64 n) (.string s) (.slice (some ⟨bl, off, none⟩) ln c))
    obtain ⟨r0, r1, r2, r3⟩ := heap_cells4 HR1.out
    have f0 : ∀ o, w2.frozen? ⟨w.heap.size + 1, o, none⟩ = false := fun o => Rw.frozen_of HR1.out
    go_wp2_with fail
    obtain ⟨hbx, hbl⟩ := HS.out
    generalize World.setCell _ _ _ = w9 at *
    obtain ⟨y0, y1, y2, y3⟩ := heap_cells4 hbx
    refine bodyPost_ret (v := .tuple #[.agg #[.int .i64 op, .int .i64 n, .string s, .slice (some ⟨bl, off, none⟩) ln c], .bool false]) (by simp [results, Tryd.results44, go_sem, y0, y1, y2, y3]) rfl ?_
    have hbb := HB1.out.trans (hbl w.heap.size (by omega))
    exact ⟨hbb, t, _, by rw [HF.out]; rfl, (HV.out.under hbb).old, fun x h => by rw [HF.out] at h; cases h⟩
end Go.Proofs.YtdbgoibodpacgaaDoor
namespace Go.Proofs.YtdbgoibodpacgaaDoor
open Go.RowKit
set_option linter.unusedVariables false
set_option linter.unusedSimpArgs false
set_option maxRecDepth 100000
/-- Behind the two boxes of the kids. -/
structure IdleAt (w : World) (C A B : Array Value) (ba bb : Nat) (W : World) : Prop where
  below : Below w.heap.size w W
  c : W.heap[w.heap.size]? = some (.cells C 24 (0, 0))
  r : W.heap[w.heap.size + 1]? = some (.cells #[.int .i64 0, .int .i64 0, .string ⟨#[]⟩, .slice none 0 0] 24 (0, 0))
  a : W.heap[ba]? = some (.cells A 24 (0, 0))
  b : W.heap[bb]? = some (.cells B 24 (0, 0))
theorem IdleAt.more {w W W' : World} {C A B : Array Value} {ba bb : Nat} (h : IdleAt w C A B ba bb W) (hb : Below W.heap.size W W') : IdleAt w C A B ba bb W' :=
  ⟨h.below.trans (hb.mono h.below.size), (hb.block _ (lt_of_block h.c)).trans h.c, (hb.block _ (lt_of_block h.r)).trans h.r, (hb.block _ (lt_of_block h.a)).trans h.a, (hb.block _ (lt_of_block h.b)).trans h.b⟩
theorem idle_at {w w1 : World} {C : Array Value} (hB : Below w.heap.size w w1) (hc : w1.heap[w.heap.size]? = some (.cells C 24 (0, 0)))
    (hr : w1.heap[w.heap.size + 1]? = some (.cells #[.int .i64 0, .int .i64 0, .string ⟨#[]⟩, .slice none 0 0] 24 (0, 0))) (A B : Array Value) :
    IdleAt w C A B w1.heap.size (w1.heap.size + 1) ((w1.alloc (.cells A 24)).alloc (.cells B 24)).drew ∧
    IdleAt w C A B (w1.heap.size + 1) w1.heap.size ((w1.alloc (.cells B 24)).alloc (.cells A 24)).drew := by
  have two : ∀ X Y : Array Value, (((w1.alloc (.cells X 24)).alloc (.cells Y 24)).drew.heap[w1.heap.size]? = some (.cells X 24 (0, 0)) ∧ ((w1.alloc (.cells X 24)).alloc (.cells Y 24)).drew.heap[w1.heap.size + 1]? = some (.cells Y 24 (0, 0))) ∧ Below w1.heap.size w1 ((w1.alloc (.cells X 24)).alloc (.cells Y 24)).drew := by
    intro X Y
    refine ⟨⟨?_, ?_⟩, (((Below.refl _ _).alloc (Nat.le_refl _) _).alloc (by simp) _).drew⟩
    · exact (((Below.refl _ (w1.alloc (.cells X 24))).alloc (Nat.le_refl _) (.cells Y 24)).block w1.heap.size (by simp)).trans (heap_alloc_new w1 _)
    · have := heap_alloc_new (w1.alloc (.cells X 24)) (.cells Y 24)
      simp only [World.size_alloc] at this
      exact this
  obtain ⟨⟨a1, a2⟩, a3⟩ := two A B
  obtain ⟨⟨c1, c2⟩, c3⟩ := two B A
  exact ⟨⟨hB.trans (a3.mono hB.size), (a3.block _ (lt_of_block hc)).trans hc, (a3.block _ (lt_of_block hr)).trans hr, a1, a2⟩, ⟨hB.trans (c3.mono hB.size), (c3.block _ (lt_of_block hc)).trans hc, (c3.block _ (lt_of_block hr)).trans hr, c2, c1⟩⟩
set_option maxHeartbeats 4000000 in
theorem optIdle_any (ok : Nat → Prop) (t : Co.T) (v : Value) (w : World) (hv : CoreIn ok w t v) (hx : t.letter ≠ 0) (h0 : 0 < t.ks.length) :
    Calls Tryd.prog 41 #[v] w (TermOut ok (Co.idle t) w) := by
  obtain ⟨op, n, s, p, ln, c, rfl, hop, hn, hs, hln⟩ := open_term hv
  have HV := hid' hv
  obtain ⟨bl, off, rfl, hrows⟩ := open_rows hv h0
  have hb0 := heap_alloc_new w (.cells #[.int .i64 op, .int .i64 n, .string s, .slice (some ⟨bl, off, none⟩) ln c] 24)
  have hr0 := heap_alloc_new (w.alloc (.cells #[.int .i64 op, .int .i64 n, .string s, .slice (some ⟨bl, off, none⟩) ln c] 24)) (.cells #[.int .i64 0, .int .i64 0, .string ⟨#[]⟩, .slice none 0 0] 24)
  simp only [World.size_alloc] at hr0
  have hB0 : Below w.heap.size w ((w.alloc (.cells #[.int .i64 op, .int .i64 n, .string s, .slice (some ⟨bl, off, none⟩) ln c] 24)).alloc (.cells #[.int .i64 0, .int .i64 0, .string ⟨#[]⟩, .slice none 0 0] 24)) := ((Below.refl w.heap.size w).alloc (Nat.le_refl _) _).alloc (by simp) _
  have hc0 := (((Below.refl _ (w.alloc (.cells #[.int .i64 op, .int .i64 n, .string s, .slice (some ⟨bl, off, none⟩) ln c] 24))).alloc (Nat.le_refl _) (.cells #[.int .i64 0, .int .i64 0, .string ⟨#[]⟩, .slice none 0 0] 24)).block w.heap.size (by simp)).trans hb0
  have j0 : (0 : Int) < (ln : Int) := by omega
  have HOP := hid' hop
  have HN := hid' hn
  have HLN := hid' hln
  have HROWS := hid' hrows
  have HX := hid' hx
  have H0 := hid' h0
  clear hb0 hop hn hs hln hrows hx h0 hv
  go_enter Tryd.func41, Tryd.ntmps41
  go_upto_region 1 with (fail)
  generalize World.alloc _ _ = w1 at *
  have HB0 := hid' hB0
  have HR0 := hid' hr0
  have HC0 := hid' hc0
  obtain ⟨k, kat⟩ : ∃ k, t.ks[0]? = some k := ⟨_, List.getElem?_eq_getElem H0.out⟩
  obtain ⟨kop, kn, ks, kp, klen, kc, kH⟩ := HROWS.out 0 k kat
  have kK := hid' (kH.below hB0)
  have kV := hid' kH.val
  have kLT := hid' kH.lt
  clear kH
  clear hr0 hB0
  obtain ⟨d0, d1, d2, d3⟩ := heap_cells4 HC0.out
  have KAT := hid' kat
  clear hc0 kat
  by_cases h2 : ln = 2
  · subst h2
    obtain ⟨j, hj⟩ : ∃ j, t.ks[1]? = some j := ⟨_, List.getElem?_eq_getElem (by rw [HLN.out]; decide)⟩
    obtain ⟨jop, jn, js, jp, jlen, jc, jH⟩ := HROWS.out 1 j hj
    have jK := hid' (jH.below HB0.out)
    have jV := hid' jH.val
    clear jH
    have eK : t.kid 0 = k := by unfold Co.T.kid; rw [KAT.out]; rfl
    have eJ : t.kid 1 = j := by unfold Co.T.kid; rw [hj]; rfl
    have HD := hid' (show Co.idle t = if Co.idleL op k j = true then some j else if Co.idleR op k j = true then some k else none by
      unfold Co.idle
      rw [if_pos HLN.out, eK, eJ, HOP.out])
    have HKO := hid' (And.intro kK.out.op' kK.out.n')
    have HJO := hid' (And.intro jK.out.op' jK.out.n')
    have hlt := lt_of_block HR0.out
    have HLT := hid' hlt
    have HBL := hid' kLT.out
    clear eK eJ hj hlt
    go_upto_region 4 with (fail)
    go_cut [4, 5] (fun v4 v5 wx => ∃ wn ba bb, wn = wx ∧ v4 = .pointer (some ⟨ba, 0, none⟩) ∧ v5 = .pointer (some ⟨bb, 0, none⟩) ∧ Hid (IdleAt w #[.int .i64 op, .int .i64 n, .string s, .slice (some ⟨bl, off, none⟩) 2 c] #[.int .i64 kop, .int .i64 kn, .string ks, .slice kp klen kc] #[.int .i64 jop, .int .i64 jn, .string js, .slice jp jlen jc]  ba bb wn))
    case first =>
      have kx0 := kK.out.x0
      have kx1 := kK.out.x1
      have kx2 := kK.out.x2
      have kx3 := kK.out.x3
      simp only [Nat.zero_mul, Nat.add_zero, Nat.one_mul] at kx0 kx1 kx2 kx3
      have jx0 := jK.out.x0
      have jx1 := jK.out.x1
      have jx2 := jK.out.x2
      have jx3 := jK.out.x3
      simp only [Nat.zero_mul, Nat.add_zero, Nat.one_mul] at jx0 jx1 jx2 jx3
      go_wp2_with fail
      have n0 := World.new_ne w1 _ d3
      have n1 := World.new_ne w1 _ kx0
      have HN8 : ∀ (o1 o2 : Obj) (W : World), W = ((w1.alloc o1).alloc o2) → True := fun _ _ _ _ => trivial
      have j0n : 0 < 2 := by decide
      go_region_held3 (fun w' => w'.cell? ⟨w.heap.size, 3, none⟩ = some (.slice (some ⟨bl, off, none⟩) 2 c) ∧ w'.cell? ⟨bl, off, none⟩ = some (.int .i64 kop) ∧ w'.cell? ⟨bl, off + 1, none⟩ = some (.int .i64 kn) ∧ w'.cell? ⟨bl, off + 2, none⟩ = some (.string ks) ∧ w'.cell? ⟨bl, off + 3, none⟩ = some (.slice kp klen kc) ∧ w'.cell? ⟨bl, off + 4, none⟩ = some (.int .i64 jop) ∧ w'.cell? ⟨bl, off + 4 + 1, none⟩ = some (.int .i64 jn) ∧ w'.cell? ⟨bl, off + 4 + 2, none⟩ = some (.string js) ∧ w'.cell? ⟨bl, off + 4 + 3, none⟩ = some (.slice jp jlen jc))
        (first | exact ⟨drew_cell d3, drew_cell kx0, drew_cell kx1, drew_cell kx2, drew_cell kx3, drew_cell jx0, drew_cell jx1, drew_cell jx2, drew_cell jx3⟩ | go_keep | simp [*]) (fail)
      all_goals go_wp2_with fail
      all_goals go_meet
      all_goals first
        | exact ⟨_, _, _, rfl, rfl, rfl, hid' (idle_at HB0.out HC0.out HR0.out _ _).1⟩
        | exact ⟨_, _, _, rfl, rfl, rfl, hid' (idle_at HB0.out HC0.out HR0.out _ _).2⟩
    case rest =>
      obtain ⟨wx, ba, bb, rfl, rfl, rfl, HI⟩ := hcut
      clear d0 d1 d2 d3
      obtain ⟨d0, d1, d2, d3⟩ := heap_cells4 HI.out.c
      obtain ⟨x0, x1, x2, x3⟩ := heap_cells4 HI.out.a
      obtain ⟨z0, z1, z2, z3⟩ := heap_cells4 HI.out.b
      by_cases h7 : op = 7
      · subst h7
        obtain ⟨gl, hgl⟩ : ∃ g, Hid ((kop == 1 && kn == 0) = g) := ⟨_, hid' rfl⟩
        obtain ⟨gr, hgr⟩ : ∃ g, Hid ((jop == 1 && jn == 0) = g) := ⟨_, hid' rfl⟩
        have HL := hid' (show Co.idleL 7 k j = gl by unfold Co.idleL Co.isNum; rw [HKO.out.1, HKO.out.2, hgl.out]; rfl)
        have HR := hid' (show Co.idleR 7 k j = gr by unfold Co.idleR Co.isNum; rw [HJO.out.1, HJO.out.2, hgr.out]; rfl)
        go_wp2_with fail
        refine wp_region_keep (Below wx.heap.size wx) (by kernel_rfl) (by kernel_rfl) (Below.refl _ _).drew ?_
        repeat (first
          | (refine wpKeep_skip ?_ ?_
             · rfl
             simp only [Act.put, List.setIfInBounds_toArray, List.set_cons_zero, List.set_cons_succ])
          | (apply wpKeep_call 70 #[.agg #[.int .i64 jop, .int .i64 jn, .string js, .slice jp jlen jc], .int .i64 0]
             · rfl
             · (intro w' hSw; obtain ⟨d0, d1, d2, d3⟩ := heap_cells4 ((hSw.block _ (lt_of_block HI.out.c)).trans HI.out.c); obtain ⟨x0, x1, x2, x3⟩ := heap_cells4 ((hSw.block _ (lt_of_block HI.out.a)).trans HI.out.a); obtain ⟨z0, z1, z2, z3⟩ := heap_cells4 ((hSw.block _ (lt_of_block HI.out.b)).trans HI.out.b); go_simp; done)
             · (intro w' hSw; refine (optIsNum_any _ _ 0 _ _ _ _ w').mono ?_; rintro e w'' ⟨rfl, b⟩; exact ⟨by rw [hgr.out], hSw.trans (b.mono hSw.size)⟩)
             simp only [Act.put, List.setIfInBounds_toArray, List.set_cons_zero, List.set_cons_succ])
          | (apply wpKeep_call 70 #[.agg #[.int .i64 kop, .int .i64 kn, .string ks, .slice kp klen kc], .int .i64 0]
             · rfl
             · (intro w' hSw; obtain ⟨d0, d1, d2, d3⟩ := heap_cells4 ((hSw.block _ (lt_of_block HI.out.c)).trans HI.out.c); obtain ⟨x0, x1, x2, x3⟩ := heap_cells4 ((hSw.block _ (lt_of_block HI.out.a)).trans HI.out.a); obtain ⟨z0, z1, z2, z3⟩ := heap_cells4 ((hSw.block _ (lt_of_block HI.out.b)).trans HI.out.b); go_simp; done)
             · (intro w' hSw; refine (optIsNum_any _ _ 0 _ _ _ _ w').mono ?_; rintro e w'' ⟨rfl, b⟩; exact ⟨by rw [hgl.out], hSw.trans (b.mono hSw.size)⟩)
             simp only [Act.put, List.setIfInBounds_toArray, List.set_cons_zero, List.set_cons_succ])
          | (apply wpKeep_val
             · rfl
             · (intro w' hSw; obtain ⟨d0, d1, d2, d3⟩ := heap_cells4 ((hSw.block _ (lt_of_block HI.out.c)).trans HI.out.c); obtain ⟨x0, x1, x2, x3⟩ := heap_cells4 ((hSw.block _ (lt_of_block HI.out.a)).trans HI.out.a); obtain ⟨z0, z1, z2, z3⟩ := heap_cells4 ((hSw.block _ (lt_of_block HI.out.b)).trans HI.out.b); first | (go_simp; done) | (go_simp; with_reducible rfl))
             simp only [Act.put, List.setIfInBounds_toArray, List.set_cons_zero, List.set_cons_succ]))
        refine wpKeep_nil ?_
        intro w3 hS'
        have HI3 := hid' (HI.out.more hS')
        clear hS' d0 d1 d2 d3 x0 x1 x2 x3 z0 z1 z2 z3
        obtain ⟨d0, d1, d2, d3⟩ := heap_cells4 HI3.out.c
        obtain ⟨x0, x1, x2, x3⟩ := heap_cells4 HI3.out.a
        obtain ⟨z0, z1, z2, z3⟩ := heap_cells4 HI3.out.b
        cases gl with
        | true =>
          obtain ⟨r0, r1, r2, r3⟩ := heap_cells4 HI3.out.r
          have HS := hid' (set4 HI3.out.r (.int .i64 jop) (.int .i64 jn) (.string js) (.slice jp jlen jc))
          have f0 : ∀ o, w3.frozen? ⟨w.heap.size + 1, o, none⟩ = false := fun o => Rw.frozen_of HI3.out.r
          have HF := hid' (show Co.idle t = some j by rw [HD.out, HL.out, HR.out]; rfl)
          go_wp2_with fail
          obtain ⟨hbx, hbl⟩ := HS.out
          generalize World.setCell _ _ _ = w9 at *
          obtain ⟨y0, y1, y2, y3⟩ := heap_cells4 hbx
          refine bodyPost_ret (v := .tuple #[.agg #[.int .i64 jop, .int .i64 jn, .string js, .slice jp jlen jc], .bool true]) (by simp [results, Tryd.results41, go_sem, y0, y1, y2, y3]) rfl ?_
          have hbb := HI3.out.below.trans (hbl w.heap.size (by omega))
          exact ⟨hbb, j, _, by rw [HF.out]; rfl, (jV.out.under hbb).old, fun x h => by rw [HF.out] at h; cases h; rfl⟩
        | false =>
          cases gr with
          | true =>
            obtain ⟨r0, r1, r2, r3⟩ := heap_cells4 HI3.out.r
            have HS := hid' (set4 HI3.out.r (.int .i64 kop) (.int .i64 kn) (.string ks) (.slice kp klen kc))
            have f0 : ∀ o, w3.frozen? ⟨w.heap.size + 1, o, none⟩ = false := fun o => Rw.frozen_of HI3.out.r
            have HF := hid' (show Co.idle t = some k by rw [HD.out, HL.out, HR.out]; rfl)
            go_wp2_with fail
            obtain ⟨hbx, hbl⟩ := HS.out
            generalize World.setCell _ _ _ = w9 at *
            obtain ⟨y0, y1, y2, y3⟩ := heap_cells4 hbx
            refine bodyPost_ret (v := .tuple #[.agg #[.int .i64 kop, .int .i64 kn, .string ks, .slice kp klen kc], .bool true]) (by simp [results, Tryd.results41, go_sem, y0, y1, y2, y3]) rfl ?_
            have hbb := HI3.out.below.trans (hbl w.heap.size (by omega))
            exact ⟨hbb, k, _, by rw [HF.out]; rfl, (kV.out.under hbb).old, fun x h => by rw [HF.out] at h; cases h; rfl⟩
          | false =>
            obtain ⟨r0, r1, r2, r3⟩ := heap_cells4 HI3.out.r
            have HS := hid' (set4 HI3.out.r (.int .i64 7) (.int .i64 n) (.string s) (.slice (some ⟨bl, off, none⟩) 2 c))
            have f0 : ∀ o, w3.frozen? ⟨w.heap.size + 1, o, none⟩ = false := fun o => Rw.frozen_of HI3.out.r
            have HF := hid' (show Co.idle t = none by rw [HD.out, HL.out, HR.out]; rfl)
            go_wp2_with fail
            obtain ⟨hbx, hbl⟩ := HS.out
            generalize World.setCell _ _ _ = w9 at *
            obtain ⟨y0, y1, y2, y3⟩ := heap_cells4 hbx
            refine bodyPost_ret (v := .tuple #[.agg #[.int .i64 7, .int .i64 n, .string s, .slice (some ⟨bl, off, none⟩) 2 c], .bool false]) (by simp [results, Tryd.results41, go_sem, y0, y1, y2, y3]) rfl ?_
            have hbb := HI3.out.below.trans (hbl w.heap.size (by omega))
            exact ⟨hbb, t, _, by rw [HF.out]; rfl, (HV.out.under hbb).old, fun x h => by rw [HF.out] at h; cases h⟩
      by_cases h9 : op = 9
      · subst h9
        obtain ⟨gl, hgl⟩ : ∃ g, Hid ((kop == 1 && kn == 1000000) = g) := ⟨_, hid' rfl⟩
        obtain ⟨gr, hgr⟩ : ∃ g, Hid ((jop == 1 && jn == 1000000) = g) := ⟨_, hid' rfl⟩
        have HL := hid' (show Co.idleL 9 k j = gl by unfold Co.idleL Co.isNum; rw [HKO.out.1, HKO.out.2, hgl.out]; rfl)
        have HR := hid' (show Co.idleR 9 k j = gr by unfold Co.idleR Co.isNum; rw [HJO.out.1, HJO.out.2, hgr.out]; rfl)
        go_wp2_with fail
        refine wp_region_keep (Below wx.heap.size wx) (by kernel_rfl) (by kernel_rfl) (Below.refl _ _).drew ?_
        repeat (first
          | (refine wpKeep_skip ?_ ?_
             · rfl
             simp only [Act.put, List.setIfInBounds_toArray, List.set_cons_zero, List.set_cons_succ])
          | (apply wpKeep_call 70 #[.agg #[.int .i64 jop, .int .i64 jn, .string js, .slice jp jlen jc], .int .i64 1000000]
             · rfl
             · (intro w' hSw; obtain ⟨d0, d1, d2, d3⟩ := heap_cells4 ((hSw.block _ (lt_of_block HI.out.c)).trans HI.out.c); obtain ⟨x0, x1, x2, x3⟩ := heap_cells4 ((hSw.block _ (lt_of_block HI.out.a)).trans HI.out.a); obtain ⟨z0, z1, z2, z3⟩ := heap_cells4 ((hSw.block _ (lt_of_block HI.out.b)).trans HI.out.b); go_simp; done)
             · (intro w' hSw; refine (optIsNum_any _ _ 1000000 _ _ _ _ w').mono ?_; rintro e w'' ⟨rfl, b⟩; exact ⟨by rw [hgr.out], hSw.trans (b.mono hSw.size)⟩)
             simp only [Act.put, List.setIfInBounds_toArray, List.set_cons_zero, List.set_cons_succ])
          | (apply wpKeep_call 70 #[.agg #[.int .i64 kop, .int .i64 kn, .string ks, .slice kp klen kc], .int .i64 1000000]
             · rfl
             · (intro w' hSw; obtain ⟨d0, d1, d2, d3⟩ := heap_cells4 ((hSw.block _ (lt_of_block HI.out.c)).trans HI.out.c); obtain ⟨x0, x1, x2, x3⟩ := heap_cells4 ((hSw.block _ (lt_of_block HI.out.a)).trans HI.out.a); obtain ⟨z0, z1, z2, z3⟩ := heap_cells4 ((hSw.block _ (lt_of_block HI.out.b)).trans HI.out.b); go_simp; done)
             · (intro w' hSw; refine (optIsNum_any _ _ 1000000 _ _ _ _ w').mono ?_; rintro e w'' ⟨rfl, b⟩; exact ⟨by rw [hgl.out], hSw.trans (b.mono hSw.size)⟩)
             simp only [Act.put, List.setIfInBounds_toArray, List.set_cons_zero, List.set_cons_succ])
          | (apply wpKeep_val
             · rfl
             · (intro w' hSw; obtain ⟨d0, d1, d2, d3⟩ := heap_cells4 ((hSw.block _ (lt_of_block HI.out.c)).trans HI.out.c); obtain ⟨x0, x1, x2, x3⟩ := heap_cells4 ((hSw.block _ (lt_of_block HI.out.a)).trans HI.out.a); obtain ⟨z0, z1, z2, z3⟩ := heap_cells4 ((hSw.block _ (lt_of_block HI.out.b)).trans HI.out.b); first | (go_simp; done) | (go_simp; with_reducible rfl))
             simp only [Act.put, List.setIfInBounds_toArray, List.set_cons_zero, List.set_cons_succ]))
        refine wpKeep_nil ?_
        intro w3 hS'
        have HI3 := hid' (HI.out.more hS')
        clear hS' d0 d1 d2 d3 x0 x1 x2 x3 z0 z1 z2 z3
        obtain ⟨d0, d1, d2, d3⟩ := heap_cells4 HI3.out.c
        obtain ⟨x0, x1, x2, x3⟩ := heap_cells4 HI3.out.a
        obtain ⟨z0, z1, z2, z3⟩ := heap_cells4 HI3.out.b
        cases gl with
        | true =>
          obtain ⟨r0, r1, r2, r3⟩ := heap_cells4 HI3.out.r
          have HS := hid' (set4 HI3.out.r (.int .i64 jop) (.int .i64 jn) (.string js) (.slice jp jlen jc))
          have f0 : ∀ o, w3.frozen? ⟨w.heap.size + 1, o, none⟩ = false := fun o => Rw.frozen_of HI3.out.r
          have HF := hid' (show Co.idle t = some j by rw [HD.out, HL.out, HR.out]; rfl)
          go_wp2_with fail
          obtain ⟨hbx, hbl⟩ := HS.out
          generalize World.setCell _ _ _ = w9 at *
          obtain ⟨y0, y1, y2, y3⟩ := heap_cells4 hbx
          refine bodyPost_ret (v := .tuple #[.agg #[.int .i64 jop, .int .i64 jn, .string js, .slice jp jlen jc], .bool true]) (by simp [results, Tryd.results41, go_sem, y0, y1, y2, y3]) rfl ?_
          have hbb := HI3.out.below.trans (hbl w.heap.size (by omega))
          exact ⟨hbb, j, _, by rw [HF.out]; rfl, (jV.out.under hbb).old, fun x h => by rw [HF.out] at h; cases h; rfl⟩
        | false =>
          cases gr with
          | true =>
            obtain ⟨r0, r1, r2, r3⟩ := heap_cells4 HI3.out.r
            have HS := hid' (set4 HI3.out.r (.int .i64 kop) (.int .i64 kn) (.string ks) (.slice kp klen kc))
            have f0 : ∀ o, w3.frozen? ⟨w.heap.size + 1, o, none⟩ = false := fun o => Rw.frozen_of HI3.out.r
            have HF := hid' (show Co.idle t = some k by rw [HD.out, HL.out, HR.out]; rfl)
            go_wp2_with fail
            obtain ⟨hbx, hbl⟩ := HS.out
            generalize World.setCell _ _ _ = w9 at *
            obtain ⟨y0, y1, y2, y3⟩ := heap_cells4 hbx
            refine bodyPost_ret (v := .tuple #[.agg #[.int .i64 kop, .int .i64 kn, .string ks, .slice kp klen kc], .bool true]) (by simp [results, Tryd.results41, go_sem, y0, y1, y2, y3]) rfl ?_
            have hbb := HI3.out.below.trans (hbl w.heap.size (by omega))
            exact ⟨hbb, k, _, by rw [HF.out]; rfl, (kV.out.under hbb).old, fun x h => by rw [HF.out] at h; cases h; rfl⟩
          | false =>
            obtain ⟨r0, r1, r2, r3⟩ := heap_cells4 HI3.out.r
            have HS := hid' (set4 HI3.out.r (.int .i64 9) (.int .i64 n) (.string s) (.slice (some ⟨bl, off, none⟩) 2 c))
            have f0 : ∀ o, w3.frozen? ⟨w.heap.size + 1, o, none⟩ = false := fun o => Rw.frozen_of HI3.out.r
            have HF := hid' (show Co.idle t = none by rw [HD.out, HL.out, HR.out]; rfl)
            go_wp2_with fail
            obtain ⟨hbx, hbl⟩ := HS.out
            generalize World.setCell _ _ _ = w9 at *
            obtain ⟨y0, y1, y2, y3⟩ := heap_cells4 hbx
            refine bodyPost_ret (v := .tuple #[.agg #[.int .i64 9, .int .i64 n, .string s, .slice (some ⟨bl, off, none⟩) 2 c], .bool false]) (by simp [results, Tryd.results41, go_sem, y0, y1, y2, y3]) rfl ?_
            have hbb := HI3.out.below.trans (hbl w.heap.size (by omega))
            exact ⟨hbb, t, _, by rw [HF.out]; rfl, (HV.out.under hbb).old, fun x h => by rw [HF.out] at h; cases h⟩
      by_cases h15 : op = 15
      · subst h15
        obtain ⟨gl, hgl⟩ : ∃ g, Hid ((kop == 2 && kn == 1) = g) := ⟨_, hid' rfl⟩
        obtain ⟨gr, hgr⟩ : ∃ g, Hid ((jop == 2 && jn == 1) = g) := ⟨_, hid' rfl⟩
        have HL := hid' (show Co.idleL 15 k j = gl by unfold Co.idleL Co.isBool; rw [HKO.out.1, HKO.out.2, hgl.out]; rfl)
        have HR := hid' (show Co.idleR 15 k j = gr by unfold Co.idleR Co.isBool; rw [HJO.out.1, HJO.out.2, hgr.out]; rfl)
        go_wp2_with fail
        refine wp_region_keep (Below wx.heap.size wx) (by kernel_rfl) (by kernel_rfl) (Below.refl _ _).drew ?_
        repeat (first
          | (refine wpKeep_skip ?_ ?_
             · rfl
             simp only [Act.put, List.setIfInBounds_toArray, List.set_cons_zero, List.set_cons_succ])
          | (apply wpKeep_call 71 #[.agg #[.int .i64 jop, .int .i64 jn, .string js, .slice jp jlen jc], .int .i64 1]
             · rfl
             · (intro w' hSw; obtain ⟨d0, d1, d2, d3⟩ := heap_cells4 ((hSw.block _ (lt_of_block HI.out.c)).trans HI.out.c); obtain ⟨x0, x1, x2, x3⟩ := heap_cells4 ((hSw.block _ (lt_of_block HI.out.a)).trans HI.out.a); obtain ⟨z0, z1, z2, z3⟩ := heap_cells4 ((hSw.block _ (lt_of_block HI.out.b)).trans HI.out.b); go_simp; done)
             · (intro w' hSw; refine (optIsBool_any _ _ 1 _ _ _ _ w').mono ?_; rintro e w'' ⟨rfl, b⟩; exact ⟨by rw [hgr.out], hSw.trans (b.mono hSw.size)⟩)
             simp only [Act.put, List.setIfInBounds_toArray, List.set_cons_zero, List.set_cons_succ])
          | (apply wpKeep_call 71 #[.agg #[.int .i64 kop, .int .i64 kn, .string ks, .slice kp klen kc], .int .i64 1]
             · rfl
             · (intro w' hSw; obtain ⟨d0, d1, d2, d3⟩ := heap_cells4 ((hSw.block _ (lt_of_block HI.out.c)).trans HI.out.c); obtain ⟨x0, x1, x2, x3⟩ := heap_cells4 ((hSw.block _ (lt_of_block HI.out.a)).trans HI.out.a); obtain ⟨z0, z1, z2, z3⟩ := heap_cells4 ((hSw.block _ (lt_of_block HI.out.b)).trans HI.out.b); go_simp; done)
             · (intro w' hSw; refine (optIsBool_any _ _ 1 _ _ _ _ w').mono ?_; rintro e w'' ⟨rfl, b⟩; exact ⟨by rw [hgl.out], hSw.trans (b.mono hSw.size)⟩)
             simp only [Act.put, List.setIfInBounds_toArray, List.set_cons_zero, List.set_cons_succ])
          | (apply wpKeep_val
             · rfl
             · (intro w' hSw; obtain ⟨d0, d1, d2, d3⟩ := heap_cells4 ((hSw.block _ (lt_of_block HI.out.c)).trans HI.out.c); obtain ⟨x0, x1, x2, x3⟩ := heap_cells4 ((hSw.block _ (lt_of_block HI.out.a)).trans HI.out.a); obtain ⟨z0, z1, z2, z3⟩ := heap_cells4 ((hSw.block _ (lt_of_block HI.out.b)).trans HI.out.b); first | (go_simp; done) | (go_simp; with_reducible rfl))
             simp only [Act.put, List.setIfInBounds_toArray, List.set_cons_zero, List.set_cons_succ]))
        refine wpKeep_nil ?_
        intro w3 hS'
        have HI3 := hid' (HI.out.more hS')
        clear hS' d0 d1 d2 d3 x0 x1 x2 x3 z0 z1 z2 z3
        obtain ⟨d0, d1, d2, d3⟩ := heap_cells4 HI3.out.c
        obtain ⟨x0, x1, x2, x3⟩ := heap_cells4 HI3.out.a
        obtain ⟨z0, z1, z2, z3⟩ := heap_cells4 HI3.out.b
        cases gl with
        | true =>
          obtain ⟨r0, r1, r2, r3⟩ := heap_cells4 HI3.out.r
          have HS := hid' (set4 HI3.out.r (.int .i64 jop) (.int .i64 jn) (.string js) (.slice jp jlen jc))
          have f0 : ∀ o, w3.frozen? ⟨w.heap.size + 1, o, none⟩ = false := fun o => Rw.frozen_of HI3.out.r
          have HF := hid' (show Co.idle t = some j by rw [HD.out, HL.out, HR.out]; rfl)
          go_wp2_with fail
          obtain ⟨hbx, hbl⟩ := HS.out
          generalize World.setCell _ _ _ = w9 at *
          obtain ⟨y0, y1, y2, y3⟩ := heap_cells4 hbx
          refine bodyPost_ret (v := .tuple #[.agg #[.int .i64 jop, .int .i64 jn, .string js, .slice jp jlen jc], .bool true]) (by simp [results, Tryd.results41, go_sem, y0, y1, y2, y3]) rfl ?_
          have hbb := HI3.out.below.trans (hbl w.heap.size (by omega))
          exact ⟨hbb, j, _, by rw [HF.out]; rfl, (jV.out.under hbb).old, fun x h => by rw [HF.out] at h; cases h; rfl⟩
        | false =>
          cases gr with
          | true =>
            obtain ⟨r0, r1, r2, r3⟩ := heap_cells4 HI3.out.r
            have HS := hid' (set4 HI3.out.r (.int .i64 kop) (.int .i64 kn) (.string ks) (.slice kp klen kc))
            have f0 : ∀ o, w3.frozen? ⟨w.heap.size + 1, o, none⟩ = false := fun o => Rw.frozen_of HI3.out.r
            have HF := hid' (show Co.idle t = some k by rw [HD.out, HL.out, HR.out]; rfl)
            go_wp2_with fail
            obtain ⟨hbx, hbl⟩ := HS.out
            generalize World.setCell _ _ _ = w9 at *
            obtain ⟨y0, y1, y2, y3⟩ := heap_cells4 hbx
            refine bodyPost_ret (v := .tuple #[.agg #[.int .i64 kop, .int .i64 kn, .string ks, .slice kp klen kc], .bool true]) (by simp [results, Tryd.results41, go_sem, y0, y1, y2, y3]) rfl ?_
            have hbb := HI3.out.below.trans (hbl w.heap.size (by omega))
            exact ⟨hbb, k, _, by rw [HF.out]; rfl, (kV.out.under hbb).old, fun x h => by rw [HF.out] at h; cases h; rfl⟩
          | false =>
            obtain ⟨r0, r1, r2, r3⟩ := heap_cells4 HI3.out.r
            have HS := hid' (set4 HI3.out.r (.int .i64 15) (.int .i64 n) (.string s) (.slice (some ⟨bl, off, none⟩) 2 c))
            have f0 : ∀ o, w3.frozen? ⟨w.heap.size + 1, o, none⟩ = false := fun o => Rw.frozen_of HI3.out.r
            have HF := hid' (show Co.idle t = none by rw [HD.out, HL.out, HR.out]; rfl)
            go_wp2_with fail
            obtain ⟨hbx, hbl⟩ := HS.out
            generalize World.setCell _ _ _ = w9 at *
            obtain ⟨y0, y1, y2, y3⟩ := heap_cells4 hbx
            refine bodyPost_ret (v := .tuple #[.agg #[.int .i64 15, .int .i64 n, .string s, .slice (some ⟨bl, off, none⟩) 2 c], .bool false]) (by simp [results, Tryd.results41, go_sem, y0, y1, y2, y3]) rfl ?_
            have hbb := HI3.out.below.trans (hbl w.heap.size (by omega))
            exact ⟨hbb, t, _, by rw [HF.out]; rfl, (HV.out.under hbb).old, fun x h => by rw [HF.out] at h; cases h⟩
      by_cases h16 : op = 16
      · subst h16
        obtain ⟨gl, hgl⟩ : ∃ g, Hid ((kop == 2 && kn == 0) = g) := ⟨_, hid' rfl⟩
        obtain ⟨gr, hgr⟩ : ∃ g, Hid ((jop == 2 && jn == 0) = g) := ⟨_, hid' rfl⟩
        have HL := hid' (show Co.idleL 16 k j = gl by unfold Co.idleL Co.isBool; rw [HKO.out.1, HKO.out.2, hgl.out]; rfl)
        have HR := hid' (show Co.idleR 16 k j = gr by unfold Co.idleR Co.isBool; rw [HJO.out.1, HJO.out.2, hgr.out]; rfl)
        go_wp2_with fail
        refine wp_region_keep (Below wx.heap.size wx) (by kernel_rfl) (by kernel_rfl) (Below.refl _ _).drew ?_
        repeat (first
          | (refine wpKeep_skip ?_ ?_
             · rfl
             simp only [Act.put, List.setIfInBounds_toArray, List.set_cons_zero, List.set_cons_succ])
          | (apply wpKeep_call 71 #[.agg #[.int .i64 jop, .int .i64 jn, .string js, .slice jp jlen jc], .int .i64 0]
             · rfl
             · (intro w' hSw; obtain ⟨d0, d1, d2, d3⟩ := heap_cells4 ((hSw.block _ (lt_of_block HI.out.c)).trans HI.out.c); obtain ⟨x0, x1, x2, x3⟩ := heap_cells4 ((hSw.block _ (lt_of_block HI.out.a)).trans HI.out.a); obtain ⟨z0, z1, z2, z3⟩ := heap_cells4 ((hSw.block _ (lt_of_block HI.out.b)).trans HI.out.b); go_simp; done)
             · (intro w' hSw; refine (optIsBool_any _ _ 0 _ _ _ _ w').mono ?_; rintro e w'' ⟨rfl, b⟩; exact ⟨by rw [hgr.out], hSw.trans (b.mono hSw.size)⟩)
             simp only [Act.put, List.setIfInBounds_toArray, List.set_cons_zero, List.set_cons_succ])
          | (apply wpKeep_call 71 #[.agg #[.int .i64 kop, .int .i64 kn, .string ks, .slice kp klen kc], .int .i64 0]
             · rfl
             · (intro w' hSw; obtain ⟨d0, d1, d2, d3⟩ := heap_cells4 ((hSw.block _ (lt_of_block HI.out.c)).trans HI.out.c); obtain ⟨x0, x1, x2, x3⟩ := heap_cells4 ((hSw.block _ (lt_of_block HI.out.a)).trans HI.out.a); obtain ⟨z0, z1, z2, z3⟩ := heap_cells4 ((hSw.block _ (lt_of_block HI.out.b)).trans HI.out.b); go_simp; done)
             · (intro w' hSw; refine (optIsBool_any _ _ 0 _ _ _ _ w').mono ?_; rintro e w'' ⟨rfl, b⟩; exact ⟨by rw [hgl.out], hSw.trans (b.mono hSw.size)⟩)
             simp only [Act.put, List.setIfInBounds_toArray, List.set_cons_zero, List.set_cons_succ])
          | (apply wpKeep_val
             · rfl
             · (intro w' hSw; obtain ⟨d0, d1, d2, d3⟩ := heap_cells4 ((hSw.block _ (lt_of_block HI.out.c)).trans HI.out.c); obtain ⟨x0, x1, x2, x3⟩ := heap_cells4 ((hSw.block _ (lt_of_block HI.out.a)).trans HI.out.a); obtain ⟨z0, z1, z2, z3⟩ := heap_cells4 ((hSw.block _ (lt_of_block HI.out.b)).trans HI.out.b); first | (go_simp; done) | (go_simp; with_reducible rfl))
             simp only [Act.put, List.setIfInBounds_toArray, List.set_cons_zero, List.set_cons_succ]))
        refine wpKeep_nil ?_
        intro w3 hS'
        have HI3 := hid' (HI.out.more hS')
        clear hS' d0 d1 d2 d3 x0 x1 x2 x3 z0 z1 z2 z3
        obtain ⟨d0, d1, d2, d3⟩ := heap_cells4 HI3.out.c
        obtain ⟨x0, x1, x2, x3⟩ := heap_cells4 HI3.out.a
        obtain ⟨z0, z1, z2, z3⟩ := heap_cells4 HI3.out.b
        cases gl with
        | true =>
          obtain ⟨r0, r1, r2, r3⟩ := heap_cells4 HI3.out.r
          have HS := hid' (set4 HI3.out.r (.int .i64 jop) (.int .i64 jn) (.string js) (.slice jp jlen jc))
          have f0 : ∀ o, w3.frozen? ⟨w.heap.size + 1, o, none⟩ = false := fun o => Rw.frozen_of HI3.out.r
          have HF := hid' (show Co.idle t = some j by rw [HD.out, HL.out, HR.out]; rfl)
          go_wp2_with fail
          obtain ⟨hbx, hbl⟩ := HS.out
          generalize World.setCell _ _ _ = w9 at *
          obtain ⟨y0, y1, y2, y3⟩ := heap_cells4 hbx
          refine bodyPost_ret (v := .tuple #[.agg #[.int .i64 jop, .int .i64 jn, .string js, .slice jp jlen jc], .bool true]) (by simp [results, Tryd.results41, go_sem, y0, y1, y2, y3]) rfl ?_
          have hbb := HI3.out.below.trans (hbl w.heap.size (by omega))
          exact ⟨hbb, j, _, by rw [HF.out]; rfl, (jV.out.under hbb).old, fun x h => by rw [HF.out] at h; cases h; rfl⟩
        | false =>
          cases gr with
          | true =>
            obtain ⟨r0, r1, r2, r3⟩ := heap_cells4 HI3.out.r
            have HS := hid' (set4 HI3.out.r (.int .i64 kop) (.int .i64 kn) (.string ks) (.slice kp klen kc))
            have f0 : ∀ o, w3.frozen? ⟨w.heap.size + 1, o, none⟩ = false := fun o => Rw.frozen_of HI3.out.r
            have HF := hid' (show Co.idle t = some k by rw [HD.out, HL.out, HR.out]; rfl)
            go_wp2_with fail
            obtain ⟨hbx, hbl⟩ := HS.out
            generalize World.setCell _ _ _ = w9 at *
            obtain ⟨y0, y1, y2, y3⟩ := heap_cells4 hbx
            refine bodyPost_ret (v := .tuple #[.agg #[.int .i64 kop, .int .i64 kn, .string ks, .slice kp klen kc], .bool true]) (by simp [results, Tryd.results41, go_sem, y0, y1, y2, y3]) rfl ?_
            have hbb := HI3.out.below.trans (hbl w.heap.size (by omega))
            exact ⟨hbb, k, _, by rw [HF.out]; rfl, (kV.out.under hbb).old, fun x h => by rw [HF.out] at h; cases h; rfl⟩
          | false =>
            obtain ⟨r0, r1, r2, r3⟩ := heap_cells4 HI3.out.r
            have HS := hid' (set4 HI3.out.r (.int .i64 16) (.int .i64 n) (.string s) (.slice (some ⟨bl, off, none⟩) 2 c))
            have f0 : ∀ o, w3.frozen? ⟨w.heap.size + 1, o, none⟩ = false := fun o => Rw.frozen_of HI3.out.r
            have HF := hid' (show Co.idle t = none by rw [HD.out, HL.out, HR.out]; rfl)
            go_wp2_with fail
            obtain ⟨hbx, hbl⟩ := HS.out
            generalize World.setCell _ _ _ = w9 at *
            obtain ⟨y0, y1, y2, y3⟩ := heap_cells4 hbx
            refine bodyPost_ret (v := .tuple #[.agg #[.int .i64 16, .int .i64 n, .string s, .slice (some ⟨bl, off, none⟩) 2 c], .bool false]) (by simp [results, Tryd.results41, go_sem, y0, y1, y2, y3]) rfl ?_
            have hbb := HI3.out.below.trans (hbl w.heap.size (by omega))
            exact ⟨hbb, t, _, by rw [HF.out]; rfl, (HV.out.under hbb).old, fun x h => by rw [HF.out] at h; cases h⟩
      by_cases h8 : op = 8
      · subst h8
        obtain ⟨gl, hgl⟩ : ∃ g, Hid (false = g) := ⟨_, hid' rfl⟩
        obtain ⟨gr, hgr⟩ : ∃ g, Hid ((jop == 1 && jn == 0) = g) := ⟨_, hid' rfl⟩
        have HL := hid' (show Co.idleL 8 k j = gl by rw [← hgl.out]; rfl)
        have HR := hid' (show Co.idleR 8 k j = gr by unfold Co.idleR Co.isNum; rw [HJO.out.1, HJO.out.2, hgr.out]; rfl)
        go_wp2_with fail
        refine (optIsNum_any _ _ 0 _ _ _ _ _).mono ?_
        rintro e w3 ⟨rfl, b3⟩
        rw [hgr.out]
        have HI3 := hid' (HI.out.more b3)
        clear b3 d0 d1 d2 d3 x0 x1 x2 x3 z0 z1 z2 z3
        obtain ⟨d0, d1, d2, d3⟩ := heap_cells4 HI3.out.c
        obtain ⟨x0, x1, x2, x3⟩ := heap_cells4 HI3.out.a
        obtain ⟨z0, z1, z2, z3⟩ := heap_cells4 HI3.out.b
        obtain rfl := hgl.out
        cases gr with
        | true =>
          obtain ⟨r0, r1, r2, r3⟩ := heap_cells4 HI3.out.r
          have HS := hid' (set4 HI3.out.r (.int .i64 kop) (.int .i64 kn) (.string ks) (.slice kp klen kc))
          have f0 : ∀ o, w3.frozen? ⟨w.heap.size + 1, o, none⟩ = false := fun o => Rw.frozen_of HI3.out.r
          have HF := hid' (show Co.idle t = some k by rw [HD.out, HL.out, HR.out]; rfl)
          go_wp2_with fail
          obtain ⟨hbx, hbl⟩ := HS.out
          generalize World.setCell _ _ _ = w9 at *
          obtain ⟨y0, y1, y2, y3⟩ := heap_cells4 hbx
          refine bodyPost_ret (v := .tuple #[.agg #[.int .i64 kop, .int .i64 kn, .string ks, .slice kp klen kc], .bool true]) (by simp [results, Tryd.results41, go_sem, y0, y1, y2, y3]) rfl ?_
          have hbb := HI3.out.below.trans (hbl w.heap.size (by omega))
          exact ⟨hbb, k, _, by rw [HF.out]; rfl, (kV.out.under hbb).old, fun x h => by rw [HF.out] at h; cases h; rfl⟩
        | false =>
          obtain ⟨r0, r1, r2, r3⟩ := heap_cells4 HI3.out.r
          have HS := hid' (set4 HI3.out.r (.int .i64 8) (.int .i64 n) (.string s) (.slice (some ⟨bl, off, none⟩) 2 c))
          have f0 : ∀ o, w3.frozen? ⟨w.heap.size + 1, o, none⟩ = false := fun o => Rw.frozen_of HI3.out.r
          have HF := hid' (show Co.idle t = none by rw [HD.out, HL.out, HR.out]; rfl)
          go_wp2_with fail
          obtain ⟨hbx, hbl⟩ := HS.out
          generalize World.setCell _ _ _ = w9 at *
          obtain ⟨y0, y1, y2, y3⟩ := heap_cells4 hbx
          refine bodyPost_ret (v := .tuple #[.agg #[.int .i64 8, .int .i64 n, .string s, .slice (some ⟨bl, off, none⟩) 2 c], .bool false]) (by simp [results, Tryd.results41, go_sem, y0, y1, y2, y3]) rfl ?_
          have hbb := HI3.out.below.trans (hbl w.heap.size (by omega))
          exact ⟨hbb, t, _, by rw [HF.out]; rfl, (HV.out.under hbb).old, fun x h => by rw [HF.out] at h; cases h⟩
      by_cases h10 : op = 10
      · subst h10
        obtain ⟨gl, hgl⟩ : ∃ g, Hid (false = g) := ⟨_, hid' rfl⟩
        obtain ⟨gr, hgr⟩ : ∃ g, Hid ((jop == 1 && jn == 1000000) = g) := ⟨_, hid' rfl⟩
        have HL := hid' (show Co.idleL 10 k j = gl by rw [← hgl.out]; rfl)
        have HR := hid' (show Co.idleR 10 k j = gr by unfold Co.idleR Co.isNum; rw [HJO.out.1, HJO.out.2, hgr.out]; rfl)
        go_wp2_with fail
        refine (optIsNum_any _ _ 1000000 _ _ _ _ _).mono ?_
        rintro e w3 ⟨rfl, b3⟩
        rw [hgr.out]
        have HI3 := hid' (HI.out.more b3)
        clear b3 d0 d1 d2 d3 x0 x1 x2 x3 z0 z1 z2 z3
        obtain ⟨d0, d1, d2, d3⟩ := heap_cells4 HI3.out.c
        obtain ⟨x0, x1, x2, x3⟩ := heap_cells4 HI3.out.a
        obtain ⟨z0, z1, z2, z3⟩ := heap_cells4 HI3.out.b
        obtain rfl := hgl.out
        cases gr with
        | true =>
          obtain ⟨r0, r1, r2, r3⟩ := heap_cells4 HI3.out.r
          have HS := hid' (set4 HI3.out.r (.int .i64 kop) (.int .i64 kn) (.string ks) (.slice kp klen kc))
          have f0 : ∀ o, w3.frozen? ⟨w.heap.size + 1, o, none⟩ = false := fun o => Rw.frozen_of HI3.out.r
          have HF := hid' (show Co.idle t = some k by rw [HD.out, HL.out, HR.out]; rfl)
          go_wp2_with fail
          obtain ⟨hbx, hbl⟩ := HS.out
          generalize World.setCell _ _ _ = w9 at *
          obtain ⟨y0, y1, y2, y3⟩ := heap_cells4 hbx
          refine bodyPost_ret (v := .tuple #[.agg #[.int .i64 kop, .int .i64 kn, .string ks, .slice kp klen kc], .bool true]) (by simp [results, Tryd.results41, go_sem, y0, y1, y2, y3]) rfl ?_
          have hbb := HI3.out.below.trans (hbl w.heap.size (by omega))
          exact ⟨hbb, k, _, by rw [HF.out]; rfl, (kV.out.under hbb).old, fun x h => by rw [HF.out] at h; cases h; rfl⟩
        | false =>
          obtain ⟨r0, r1, r2, r3⟩ := heap_cells4 HI3.out.r
          have HS := hid' (set4 HI3.out.r (.int .i64 10) (.int .i64 n) (.string s) (.slice (some ⟨bl, off, none⟩) 2 c))
          have f0 : ∀ o, w3.frozen? ⟨w.heap.size + 1, o, none⟩ = false := fun o => Rw.frozen_of HI3.out.r
          have HF := hid' (show Co.idle t = none by rw [HD.out, HL.out, HR.out]; rfl)
          go_wp2_with fail
          obtain ⟨hbx, hbl⟩ := HS.out
          generalize World.setCell _ _ _ = w9 at *
          obtain ⟨y0, y1, y2, y3⟩ := heap_cells4 hbx
          refine bodyPost_ret (v := .tuple #[.agg #[.int .i64 10, .int .i64 n, .string s, .slice (some ⟨bl, off, none⟩) 2 c], .bool false]) (by simp [results, Tryd.results41, go_sem, y0, y1, y2, y3]) rfl ?_
          have hbb := HI3.out.below.trans (hbl w.heap.size (by omega))
          exact ⟨hbb, t, _, by rw [HF.out]; rfl, (HV.out.under hbb).old, fun x h => by rw [HF.out] at h; cases h⟩
      by_cases h27 : op = 27
      · subst h27
        obtain ⟨gl, hgl⟩ : ∃ g, Hid ((kop == 23) = g) := ⟨_, hid' rfl⟩
        obtain ⟨gr, hgr⟩ : ∃ g, Hid ((jop == 23) = g) := ⟨_, hid' rfl⟩
        have HL := hid' (show Co.idleL 27 k j = gl by unfold Co.idleL; rw [HKO.out.1, hgl.out]; rfl)
        have HR := hid' (show Co.idleR 27 k j = gr by unfold Co.idleR; rw [HJO.out.1, hgr.out]; rfl)
        have kl := hgl.out
        have kr := hgr.out
        go_wp2_with fail
        refine wp_region_keep (Below wx.heap.size wx) (by kernel_rfl) (by kernel_rfl) (Below.refl _ _).drew ?_
        repeat (first
          | (refine wpKeep_skip ?_ ?_
             · rfl
             simp only [Act.put, List.setIfInBounds_toArray, List.set_cons_zero, List.set_cons_succ])
          | (apply wpKeep_val
             · rfl
             · (intro w' hSw; obtain ⟨d0, d1, d2, d3⟩ := heap_cells4 ((hSw.block _ (lt_of_block HI.out.c)).trans HI.out.c); obtain ⟨x0, x1, x2, x3⟩ := heap_cells4 ((hSw.block _ (lt_of_block HI.out.a)).trans HI.out.a); obtain ⟨z0, z1, z2, z3⟩ := heap_cells4 ((hSw.block _ (lt_of_block HI.out.b)).trans HI.out.b); first | (go_simp; done) | (go_simp; with_reducible rfl))
             simp only [Act.put, List.setIfInBounds_toArray, List.set_cons_zero, List.set_cons_succ]))
        refine wpKeep_nil ?_
        intro w3 hS'
        have HI3 := hid' (HI.out.more hS')
        clear hS' d0 d1 d2 d3 x0 x1 x2 x3 z0 z1 z2 z3 kl kr
        obtain ⟨d0, d1, d2, d3⟩ := heap_cells4 HI3.out.c
        obtain ⟨x0, x1, x2, x3⟩ := heap_cells4 HI3.out.a
        obtain ⟨z0, z1, z2, z3⟩ := heap_cells4 HI3.out.b
        cases gl with
        | true =>
          obtain ⟨r0, r1, r2, r3⟩ := heap_cells4 HI3.out.r
          have HS := hid' (set4 HI3.out.r (.int .i64 jop) (.int .i64 jn) (.string js) (.slice jp jlen jc))
          have f0 : ∀ o, w3.frozen? ⟨w.heap.size + 1, o, none⟩ = false := fun o => Rw.frozen_of HI3.out.r
          have HF := hid' (show Co.idle t = some j by rw [HD.out, HL.out, HR.out]; rfl)
          go_wp2_with fail
          obtain ⟨hbx, hbl⟩ := HS.out
          generalize World.setCell _ _ _ = w9 at *
          obtain ⟨y0, y1, y2, y3⟩ := heap_cells4 hbx
          refine bodyPost_ret (v := .tuple #[.agg #[.int .i64 jop, .int .i64 jn, .string js, .slice jp jlen jc], .bool true]) (by simp [results, Tryd.results41, go_sem, y0, y1, y2, y3]) rfl ?_
          have hbb := HI3.out.below.trans (hbl w.heap.size (by omega))
          exact ⟨hbb, j, _, by rw [HF.out]; rfl, (jV.out.under hbb).old, fun x h => by rw [HF.out] at h; cases h; rfl⟩
        | false =>
          cases gr with
          | true =>
            obtain ⟨r0, r1, r2, r3⟩ := heap_cells4 HI3.out.r
            have HS := hid' (set4 HI3.out.r (.int .i64 kop) (.int .i64 kn) (.string ks) (.slice kp klen kc))
            have f0 : ∀ o, w3.frozen? ⟨w.heap.size + 1, o, none⟩ = false := fun o => Rw.frozen_of HI3.out.r
            have HF := hid' (show Co.idle t = some k by rw [HD.out, HL.out, HR.out]; rfl)
            go_wp2_with fail
            obtain ⟨hbx, hbl⟩ := HS.out
            generalize World.setCell _ _ _ = w9 at *
            obtain ⟨y0, y1, y2, y3⟩ := heap_cells4 hbx
            refine bodyPost_ret (v := .tuple #[.agg #[.int .i64 kop, .int .i64 kn, .string ks, .slice kp klen kc], .bool true]) (by simp [results, Tryd.results41, go_sem, y0, y1, y2, y3]) rfl ?_
            have hbb := HI3.out.below.trans (hbl w.heap.size (by omega))
            exact ⟨hbb, k, _, by rw [HF.out]; rfl, (kV.out.under hbb).old, fun x h => by rw [HF.out] at h; cases h; rfl⟩
          | false =>
            obtain ⟨r0, r1, r2, r3⟩ := heap_cells4 HI3.out.r
            have HS := hid' (set4 HI3.out.r (.int .i64 27) (.int .i64 n) (.string s) (.slice (some ⟨bl, off, none⟩) 2 c))
            have f0 : ∀ o, w3.frozen? ⟨w.heap.size + 1, o, none⟩ = false := fun o => Rw.frozen_of HI3.out.r
            have HF := hid' (show Co.idle t = none by rw [HD.out, HL.out, HR.out]; rfl)
            go_wp2_with fail
            obtain ⟨hbx, hbl⟩ := HS.out
            generalize World.setCell _ _ _ = w9 at *
            obtain ⟨y0, y1, y2, y3⟩ := heap_cells4 hbx
            refine bodyPost_ret (v := .tuple #[.agg #[.int .i64 27, .int .i64 n, .string s, .slice (some ⟨bl, off, none⟩) 2 c], .bool false]) (by simp [results, Tryd.results41, go_sem, y0, y1, y2, y3]) rfl ?_
            have hbb := HI3.out.below.trans (hbl w.heap.size (by omega))
            exact ⟨hbb, t, _, by rw [HF.out]; rfl, (HV.out.under hbb).old, fun x h => by rw [HF.out] at h; cases h⟩
      by_cases h26 : op = 26
      · subst h26
        obtain ⟨g1, hg1⟩ : ∃ g, Hid ((kop == 1 && kn == 1000000) = g) := ⟨_, hid' rfl⟩
        obtain ⟨g2, hg2⟩ : ∃ g, Hid ((kop == 1) = g) := ⟨_, hid' rfl⟩
        obtain ⟨g3, hg3⟩ : ∃ g, Hid ((jop == 23) = g) := ⟨_, hid' rfl⟩
        have HL0 := hid' (show Co.idleL 26 k j = (g1 || (g2 && g3)) by unfold Co.idleL Co.isNum; rw [HKO.out.1, HKO.out.2, HJO.out.1, hg1.out, hg2.out, hg3.out]; rfl)
        have HR := hid' (show Co.idleR 26 k j = false from rfl)
        go_wp2_with fail
        refine (optIsNum_any _ _ 1000000 _ _ _ _ _).mono ?_
        rintro e w3 ⟨rfl, b3⟩
        rw [hg1.out]
        have HI3 := hid' (HI.out.more b3)
        clear b3 d0 d1 d2 d3 x0 x1 x2 x3 z0 z1 z2 z3
        obtain ⟨d0, d1, d2, d3⟩ := heap_cells4 HI3.out.c
        obtain ⟨x0, x1, x2, x3⟩ := heap_cells4 HI3.out.a
        obtain ⟨z0, z1, z2, z3⟩ := heap_cells4 HI3.out.b
        have q2 := hg2.out
        have q3 := hg3.out
        cases g1 with
        | true =>
          have HL := hid' (show Co.idleL 26 k j = true from HL0.out)
          obtain ⟨r0, r1, r2, r3⟩ := heap_cells4 HI3.out.r
          have HS := hid' (set4 HI3.out.r (.int .i64 jop) (.int .i64 jn) (.string js) (.slice jp jlen jc))
          have f0 : ∀ o, w3.frozen? ⟨w.heap.size + 1, o, none⟩ = false := fun o => Rw.frozen_of HI3.out.r
          have HF := hid' (show Co.idle t = some j by rw [HD.out, HL.out, HR.out]; rfl)
          go_wp2_with fail
          obtain ⟨hbx, hbl⟩ := HS.out
          generalize World.setCell _ _ _ = w9 at *
          obtain ⟨y0, y1, y2, y3⟩ := heap_cells4 hbx
          refine bodyPost_ret (v := .tuple #[.agg #[.int .i64 jop, .int .i64 jn, .string js, .slice jp jlen jc], .bool true]) (by simp [results, Tryd.results41, go_sem, y0, y1, y2, y3]) rfl ?_
          have hbb := HI3.out.below.trans (hbl w.heap.size (by omega))
          exact ⟨hbb, j, _, by rw [HF.out]; rfl, (jV.out.under hbb).old, fun x h => by rw [HF.out] at h; cases h; rfl⟩
        | false =>
          cases g2 with
          | true =>
            cases g3 with
            | true =>
              have HL := hid' (show Co.idleL 26 k j = true from HL0.out)
              obtain ⟨r0, r1, r2, r3⟩ := heap_cells4 HI3.out.r
              have HS := hid' (set4 HI3.out.r (.int .i64 jop) (.int .i64 jn) (.string js) (.slice jp jlen jc))
              have f0 : ∀ o, w3.frozen? ⟨w.heap.size + 1, o, none⟩ = false := fun o => Rw.frozen_of HI3.out.r
              have HF := hid' (show Co.idle t = some j by rw [HD.out, HL.out, HR.out]; rfl)
              go_wp2_with fail
              obtain ⟨hbx, hbl⟩ := HS.out
              generalize World.setCell _ _ _ = w9 at *
              obtain ⟨y0, y1, y2, y3⟩ := heap_cells4 hbx
              refine bodyPost_ret (v := .tuple #[.agg #[.int .i64 jop, .int .i64 jn, .string js, .slice jp jlen jc], .bool true]) (by simp [results, Tryd.results41, go_sem, y0, y1, y2, y3]) rfl ?_
              have hbb := HI3.out.below.trans (hbl w.heap.size (by omega))
              exact ⟨hbb, j, _, by rw [HF.out]; rfl, (jV.out.under hbb).old, fun x h => by rw [HF.out] at h; cases h; rfl⟩
            | false =>
              have HL := hid' (show Co.idleL 26 k j = false from HL0.out)
              obtain ⟨r0, r1, r2, r3⟩ := heap_cells4 HI3.out.r
              have HS := hid' (set4 HI3.out.r (.int .i64 26) (.int .i64 n) (.string s) (.slice (some ⟨bl, off, none⟩) 2 c))
              have f0 : ∀ o, w3.frozen? ⟨w.heap.size + 1, o, none⟩ = false := fun o => Rw.frozen_of HI3.out.r
              have HF := hid' (show Co.idle t = none by rw [HD.out, HL.out, HR.out]; rfl)
              go_wp2_with fail
              obtain ⟨hbx, hbl⟩ := HS.out
              generalize World.setCell _ _ _ = w9 at *
              obtain ⟨y0, y1, y2, y3⟩ := heap_cells4 hbx
              refine bodyPost_ret (v := .tuple #[.agg #[.int .i64 26, .int .i64 n, .string s, .slice (some ⟨bl, off, none⟩) 2 c], .bool false]) (by simp [results, Tryd.results41, go_sem, y0, y1, y2, y3]) rfl ?_
              have hbb := HI3.out.below.trans (hbl w.heap.size (by omega))
              exact ⟨hbb, t, _, by rw [HF.out]; rfl, (HV.out.under hbb).old, fun x h => by rw [HF.out] at h; cases h⟩
          | false =>
            have HL := hid' (show Co.idleL 26 k j = false from HL0.out)
            obtain ⟨r0, r1, r2, r3⟩ := heap_cells4 HI3.out.r
            have HS := hid' (set4 HI3.out.r (.int .i64 26) (.int .i64 n) (.string s) (.slice (some ⟨bl, off, none⟩) 2 c))
            have f0 : ∀ o, w3.frozen? ⟨w.heap.size + 1, o, none⟩ = false := fun o => Rw.frozen_of HI3.out.r
            have HF := hid' (show Co.idle t = none by rw [HD.out, HL.out, HR.out]; rfl)
            go_wp2_with fail
            obtain ⟨hbx, hbl⟩ := HS.out
            generalize World.setCell _ _ _ = w9 at *
            obtain ⟨y0, y1, y2, y3⟩ := heap_cells4 hbx
            refine bodyPost_ret (v := .tuple #[.agg #[.int .i64 26, .int .i64 n, .string s, .slice (some ⟨bl, off, none⟩) 2 c], .bool false]) (by simp [results, Tryd.results41, go_sem, y0, y1, y2, y3]) rfl ?_
            have hbb := HI3.out.below.trans (hbl w.heap.size (by omega))
            exact ⟨hbb, t, _, by rw [HF.out]; rfl, (HV.out.under hbb).old, fun x h => by rw [HF.out] at h; cases h⟩
      have HL := hid' (show Co.idleL op k j = false by unfold Co.idleL; simp [h7, h9, h15, h16, h8, h10, h27, h26])
      have HR := hid' (show Co.idleR op k j = false by unfold Co.idleR; simp [h7, h9, h15, h16, h8, h10, h27, h26])
      have q7 : (op == 7) = false := by simpa using h7
      have q9 : (op == 9) = false := by simpa using h9
      have q15 : (op == 15) = false := by simpa using h15
      have q16 : (op == 16) = false := by simpa using h16
      have q8 : (op == 8) = false := by simpa using h8
      have q10 : (op == 10) = false := by simpa using h10
      have q27 : (op == 27) = false := by simpa using h27
      have q26 : (op == 26) = false := by simpa using h26
      clear h7 h9 h15 h16 h8 h10 h27 h26
      have HI3 := HI
      obtain ⟨r0, r1, r2, r3⟩ := heap_cells4 HI3.out.r
      have HS := hid' (set4 HI3.out.r (.int .i64 op) (.int .i64 n) (.string s) (.slice (some ⟨bl, off, none⟩) 2 c))
      have f0 : ∀ o, wx.frozen? ⟨w.heap.size + 1, o, none⟩ = false := fun o => Rw.frozen_of HI3.out.r
      have HF := hid' (show Co.idle t = none by rw [HD.out, HL.out, HR.out]; rfl)
      go_wp2_with fail
      obtain ⟨hbx, hbl⟩ := HS.out
      generalize World.setCell _ _ _ = w9 at *
      obtain ⟨y0, y1, y2, y3⟩ := heap_cells4 hbx
      refine bodyPost_ret (v := .tuple #[.agg #[.int .i64 op, .int .i64 n, .string s, .slice (some ⟨bl, off, none⟩) 2 c], .bool false]) (by simp [results, Tryd.results41, go_sem, y0, y1, y2, y3]) rfl ?_
      have hbb := HI3.out.below.trans (hbl w.heap.size (by omega))
      exact ⟨hbb, t, _, by rw [HF.out]; rfl, (HV.out.under hbb).old, fun x h => by rw [HF.out] at h; cases h⟩
  · have HF := hid' (show Co.idle t = none by unfold Co.idle; rw [HLN.out]; exact if_neg h2)
    have g2 : ((ln : Int) != 2) = true := by simp; omega
    clear h2
    have HS := hid' (set4 HR0.out (.int .i64 op) (.int .i64 n) (.string s) (.slice (some ⟨bl, off, none⟩) ln c))
    obtain ⟨r0, r1, r2, r3⟩ := heap_cells4 HR0.out
    have f0 : ∀ o, w1.frozen? ⟨w.heap.size + 1, o, none⟩ = false := fun o => Rw.frozen_of HR0.out
    go_wp2_with fail
    obtain ⟨hbx, hbl⟩ := HS.out
    generalize World.setCell _ _ _ = w9 at *
    obtain ⟨y0, y1, y2, y3⟩ := heap_cells4 hbx
    refine bodyPost_ret (v := .tuple #[.agg #[.int .i64 op, .int .i64 n, .string s, .slice (some ⟨bl, off, none⟩) ln c], .bool false]) (by simp [results, Tryd.results41, go_sem, y0, y1, y2, y3]) rfl ?_
    have hbb := HB0.out.trans (hbl w.heap.size (by omega))
    exact ⟨hbb, t, _, by rw [HF.out]; rfl, (HV.out.under hbb).old, fun x h => by rw [HF.out] at h; cases h⟩
end Go.Proofs.YtdbgoibodpacgaaDoor
