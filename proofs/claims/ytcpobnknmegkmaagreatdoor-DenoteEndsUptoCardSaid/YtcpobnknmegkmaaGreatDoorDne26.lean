/- Proved: lemmas and contracts of the functions that the law reaches, part 26 of 28: DnStep, DnShown, DnLawP, EnRef1, EnRef4. Conditions: as each states. -/
import Derived.Test.YtcpobnknmegkmaaGreatDoorShelf
import Derived.Deep.Onto
import Derived.Laws.OwnMore
import Derived.Test.YtcpobnknmegkmaaGreatDoorDne12
import Derived.Test.YtcpobnknmegkmaaGreatDoorDne21
import Derived.Test.YtcpobnknmegkmaaGreatDoorDne22
import Derived.Test.YtcpobnknmegkmaaGreatDoorDne23
import Derived.Test.YtcpobnknmegkmaaGreatDoorDne25
namespace Go.Proofs.YtcpobnknmegkmaaGreatDoor
open Go.RowKit
open Rw
set_option linter.unusedVariables false
set_option linter.unusedSimpArgs false
set_option maxRecDepth 100000
namespace Dn
open Co
def waitOps : List Int := [26, 28, 29, 30, 31]
theorem waits_wop (op : Int) : waitOps.contains op = wop op := by
  unfold waitOps wop
  simp only [List.contains_cons, List.contains_nil, Bool.or_false, Bool.or_assoc]
def liveBad (L : List T) (l : List (Int × Int)) (i : Nat) (x : Int × Int) : Bool := decide (x.1 < 0) || (decide ((L.length : Int) ≤ x.1) || (Fd.prevLate l i x.1 || (!(x.2 == Num.clamp x.2) || !waitOps.contains (L.getD x.1.toNat default).op)))
theorem live_good {L : List T} {l : List (Int × Int)} {i : Nat} {x : Int × Int} (h : liveBad L l i x = false) : LiveOk L l i x := by
  unfold liveBad at h
  simp only [Bool.or_eq_false_iff, Bool.not_eq_false', decide_eq_false_iff_not, beq_iff_eq] at h
  obtain ⟨h1, h2, h3, h4, h5⟩ := h
  refine ⟨⟨by omega, by omega⟩, fun j y e hy => ?_, h4, by rw [← waits_wop]; exact h5⟩
  subst e
  simp only [Fd.prevLate, decide_eq_false_iff_not] at h3
  rw [Fd.stampAt_eq hy] at h3
  omega
theorem live_bad {L : List T} {l : List (Int × Int)} {i : Nat} {x : Int × Int} (hi : i < l.length) (h : liveBad L l i x = true) : ¬ LiveOk L l i x := by
  intro ok
  unfold liveBad at h
  have h1 := ok.at'
  have h2 := ok.num
  have h3 := ok.waits
  rw [← waits_wop] at h3
  rw [decide_eq_false (by omega : ¬ x.1 < 0), decide_eq_false (by omega : ¬ (L.length : Int) ≤ x.1), h3, show (x.2 == Num.clamp x.2) = true by rw [beq_iff_eq]; exact h2] at h
  cases i with
  | zero => cases h
  | succ j =>
    simp only [Fd.prevLate, Bool.not_true, Bool.false_or, Bool.or_false, decide_eq_true_eq] at h
    have hj : l[j]? = some (Fd.stampAt l j) := by unfold Fd.stampAt; rw [List.getElem?_eq_getElem (by omega)]; rfl
    have := ok.up j _ rfl hj
    omega
open Classical in
noncomputable def stepR (t : T) (l : List (Int × Int)) (day : Int) (F : List Fd.Feed) (lab : ByteArray) (wh : Int) : Option R :=
  if t.good ∧ dayOk day = true ∧ Fd.Ok F ∧ pickB lab wh = true ∧ LivesOk (pre t) l then some (stepAll (eyes F day) lab wh (pre t) l) else none
theorem stepAll_append (E : Eyes) (lab : ByteArray) (wh : Int) (L : List T) : ∀ (l r : List (Int × Int)), stepAll E lab wh L (l ++ r) = both (stepAll E lab wh L l) (stepAll E lab wh L r)
  | [], r => rfl
  | x :: l, r => by rw [List.cons_append, stepAll, stepAll, stepAll_append E lab wh L l r]; simp [both]
theorem stepAll_take (E : Eyes) (lab : ByteArray) (wh : Int) (L : List T) {l : List (Int × Int)} {i : Nat} {x : Int × Int} (h : l[i]? = some x) :
    stepAll E lab wh L (l.take (i + 1)) = both (stepAll E lab wh L (l.take i)) (stepOne E lab wh (L.getD x.1.toNat default) x.1 x.2) := by
  have e : l.take (i + 1) = l.take i ++ [x] := by rw [List.take_add_one, h]; rfl
  rw [e, stepAll_append]
  simp [stepAll, both, nothing]
theorem stepOne_len {E : Eyes} (hE : EyesOk E) (lab : ByteArray) (wh : Int) {u : T} (hx : u.letter = 99) (p : Int) {f : Int} (hf : NumOk f) : (stepOne E lab wh u p f).1.length ≤ u.size ∧ (stepOne E lab wh u p f).2.length ≤ u.size := by
  unfold stepOne
  split
  · obtain ⟨op, n, s, ks⟩ := u
    rename_i h
    simp only [T.op] at h
    unfold kidA kidR
    cases hk : (acqs E (T.mk op n s ks).ks)[(wh - 1).toNat]? with
    | none => rw [List.getD_eq_getElem?_getD, hk]; simp [nothing]
    | some fn =>
      rw [List.getD_eq_getElem?_getD, hk]
      rw [acqs_map, List.getElem?_map] at hk
      obtain ⟨k, hk1, rfl⟩ := Option.map_eq_some_iff.1 hk
      have hkx : k.letter = 99 := by
        obtain ⟨rfl, -⟩ := h
        rcases contract_of hx with (⟨e, -⟩ | ⟨e, -⟩) | ⟨e, -⟩ | ⟨e, -⟩ | ⟨-, a, b, rfl, ha, hb⟩ | ⟨e, -⟩ | ⟨e, -⟩
        all_goals try (exfalso; omega)
        have hm := List.mem_of_getElem? hk1
        simp only [T.ks, List.mem_cons, List.not_mem_nil, or_false] at hm
        rcases hm with rfl | rfl
        · exact ha
        · exact hb
      have h1 := acq_len hE k (p + 1 + ((((T.mk op n s ks).ks.map T.size).take (wh - 1).toNat).sum : Nat)) f hkx hf
      have h2 := sizes_mem (List.mem_of_getElem? hk1)
      simp only [T.ks] at h1 h2
      rw [T.size]
      exact ⟨Nat.le_trans h1.1 (by omega), Nat.le_trans h1.2 (by omega)⟩
  · exact acq_len hE u p f hx hf
theorem pre_size (t : T) : ∀ u ∈ pre t, u.size ≤ t.size := by
  induction t using T.ind with | h op n s ks ih => ?_
  intro u hu
  rw [pre] at hu
  rcases List.mem_cons.1 hu with rfl | hu
  · exact Nat.le_refl _
  · have : ∀ l : List T, (∀ k ∈ l, ∀ u ∈ pre k, u.size ≤ k.size) → ∀ u ∈ pres l, u.size ≤ sizes l := by
      intro l
      induction l with
      | nil => intro _ u hu; cases hu
      | cons a r ih2 =>
        intro h u hu
        rw [pres] at hu
        rw [sizes]
        rcases List.mem_append.1 hu with hu | hu
        · have := h a (List.mem_cons_self ..) u hu; omega
        · have := ih2 (fun k hk => h k (List.mem_cons_of_mem _ hk)) u hu; omega
    have := this ks ih u hu
    rw [T.size]
    omega
/-- A term that waits is a contract. -/
theorem wop_letter {u : T} (h : u.letter ≠ 0) (hw : wop u.op = true) : u.letter = 99 := by
  obtain ⟨op, n, s, ks⟩ := u
  simp only [T.op] at hw
  unfold wop at hw
  simp only [Bool.or_eq_true, beq_iff_eq] at hw
  have h22 : op ≠ 22 := by omega
  obtain ⟨hwant, -⟩ := letter_inv rfl h h22
  generalize (T.mk op n s ks).letter = x at *
  rcases hw with (((rfl | rfl) | rfl) | rfl) | rfl
  all_goals
    simp only [want_26, want_28, want_29, want_30, want_31, Option.some.injEq, Prod.mk.injEq] at hwant
    exact hwant.2.symm
theorem pre_ne (t : T) : t.letter ≠ 0 → ∀ u ∈ pre t, u.letter ≠ 0 := by
  induction t using T.ind with | h op n s ks ih => ?_
  intro hx u hu
  rw [pre] at hu
  rcases List.mem_cons.1 hu with rfl | hu
  · exact hx
  · have : ∀ l : List T, (∀ k ∈ l, ∀ u ∈ pre k, u.letter ≠ 0) → ∀ u ∈ pres l, u.letter ≠ 0 := by
      intro l
      induction l with
      | nil => intro _ u hu; cases hu
      | cons a r ih2 =>
        intro h u hu
        rw [pres] at hu
        rcases List.mem_append.1 hu with hu | hu
        · exact h a (List.mem_cons_self ..) u hu
        · exact ih2 (fun k hk => h k (List.mem_cons_of_mem _ hk)) u hu
    exact this ks (fun k hk => ih k hk (kids_ne hx k hk)) u hu
/-- Right lives: as many as terms at most. -/
theorem lives_len {L : List T} {l : List (Int × Int)} (h : LivesOk L l) : l.length ≤ L.length := by
  have key : ∀ (i : Nat) x, l[i]? = some x → (i : Int) ≤ x.1 := by
    intro i
    induction i with
    | zero => intro x hx; have := (h 0 x hx).at'; omega
    | succ i ih =>
      intro x hx
      obtain ⟨y, hy⟩ : ∃ y, l[i]? = some y := ⟨_, List.getElem?_eq_getElem (by have := (List.getElem?_eq_some_iff.1 hx).1; omega)⟩
      have h1 := ih y hy
      have h2 := (h (i + 1) x hx).up i y rfl hy
      omega
  rcases hl : l.length with _ | n
  · omega
  · obtain ⟨y, hy⟩ : ∃ y, l[n]? = some y := ⟨_, List.getElem?_eq_getElem (by omega)⟩
    have h1 := key n y hy
    have h2 := (h n y hy).at'
    omega
theorem stepAll_len {E : Eyes} (hE : EyesOk E) (lab : ByteArray) (wh : Int) {t : T} (hx : t.letter ≠ 0) {l : List (Int × Int)} (h : LivesOk (pre t) l) : ∀ i, i ≤ l.length → (stepAll E lab wh (pre t) (l.take i)).1.length ≤ i * t.size ∧ (stepAll E lab wh (pre t) (l.take i)).2.length ≤ i * t.size := by
  intro i
  induction i with
  | zero => intro _; rw [List.take_zero]; simp [stepAll, nothing]
  | succ i ih =>
    intro hi
    obtain ⟨y, hy⟩ : ∃ y, l[i]? = some y := ⟨_, List.getElem?_eq_getElem (by omega)⟩
    have h1 := ih (by omega)
    rw [stepAll_take E lab wh (pre t) hy]
    have hl := h i y hy
    obtain ⟨u, hu⟩ : ∃ u, (pre t)[y.1.toNat]? = some u := ⟨_, List.getElem?_eq_getElem (by have := hl.at'; omega)⟩
    have hg : (pre t).getD y.1.toNat default = u := by rw [List.getD_eq_getElem?_getD, hu]; rfl
    have hm := List.mem_of_getElem? hu
    have hw := hl.waits
    rw [hg] at hw ⊢
    have h2 := stepOne_len hE lab wh (wop_letter (pre_ne t hx u hm) hw) y.1 (f := y.2) (by rw [hl.num]; exact ⟨Num.clamp_ge _, Num.clamp_le _⟩)
    have h3 := pre_size t u hm
    unfold both
    simp only [List.length_append]
    rw [Nat.succ_mul]
    omega
end Dn
theorem TermRow.cells {ok : Nat → Prop} {W0 W : World} {base : Nat} {L : List Co.T} {v : Value} (h : TermRow ok W0 base L v W) {m : Nat} {u : Co.T} (hu : L[m]? = some u) : ∃ g cap x y z s, v = .slice (some ⟨g, 0, none⟩) L.length cap ∧ base ≤ g ∧ CoreIn ok W0 u (.agg #[x, y, z, s]) ∧
    ∀ W' : World, W'.heap[g]? = W.heap[g]? → (W'.cell? ⟨g, m * 4, none⟩ = some x ∧ W'.cell? ⟨g, m * 4 + 1, none⟩ = some y ∧ W'.cell? ⟨g, m * 4 + 2, none⟩ = some z ∧ W'.cell? ⟨g, m * 4 + 3, none⟩ = some s) := by
  obtain ⟨qs, h1, h2, h3⟩ := h
  obtain ⟨q, hq, hc⟩ := h3 m u hu
  obtain ⟨-, ⟨rfl, hz⟩ | ⟨g, cap, cur, rfl, hb, hg, hrest⟩⟩ := id h2
  · have := (List.getElem?_eq_some_iff.1 hu).1
    omega
  · refine ⟨g, cap, q.1, q.2.1, q.2.2.1, q.2.2.2, rfl, hb, hc, fun W' hW => ?_⟩
    have key : ∀ (r : Nat) x, q.cells[r]? = some x → r < 4 → W.cell? ⟨g, m * 4 + r, none⟩ = some x := by
      intro r x hr hr4
      have := h2.cells (g := g) rfl (m * 4 + r) x (by rw [Rw.cells_at Q4.cells 4 (fun _ => rfl) qs m q r hq hr4]; exact hr)
      rw [Rw.add_gen] at this
      simpa using this
    have go : ∀ (r : Nat) x, q.cells[r]? = some x → r < 4 → W'.cell? ⟨g, m * 4 + r, none⟩ = some x := fun r x hr hr4 => cell_same (key r x hr hr4) hW
    exact ⟨go 0 _ rfl (by omega), go 1 _ rfl (by omega), go 2 _ rfl (by omega), go 3 _ rfl (by omega)⟩
theorem TermRow.kp {ok : Nat → Prop} {W0 W W' : World} {rb : Nat} {L : List Co.T} {v : Value} (h : TermRow ok W0 (rb + 1) L v W) (k : KpR rb W W') : TermRow ok W0 (rb + 1) L v W' := by
  obtain ⟨qs, h1, h2, h3⟩ := h
  exact ⟨qs, h1, ⟨h2.1, h2.2.imp id fun ⟨g, cap, cur, e1, e2, e3, e4⟩ => ⟨g, cap, cur, e1, e2, k.box (by omega) (by decide) (by decide) e3, e4⟩⟩, h3⟩
theorem name_nil : Led.isName ⟨#[]⟩ = false := by kernel_rfl
set_option maxHeartbeats 16000000 in
theorem dnstep_any (t : Co.T) (l : List (Int × Int)) (day : Int) (F : List Fd.Feed) (lab : ByteArray) (wh : Int) (ok : Nat → Prop) (v vl0 vf : Value) (w : World) (hv : CoreIn ok w t v) (hsz : t.size ≤ 2000000) (hl : StampsAt w vl0 l) (hF : FeedsAt w vf F) (hlab : lab.size ≤ 2000000) :
    Calls Tryz.prog 8 #[v, vl0, .int .i64 day, vf, .agg #[.string lab, .int .i64 wh]] w (DnPost (Dn.stepR t l day F lab wh) day w) := by
  obtain ⟨p, c, hve, -⟩ := hv.open
  obtain ⟨op, n, s, ln, rfl⟩ : ∃ op n s ln, v = .agg #[.int .i64 op, .int .i64 n, .string s, .slice p ln c] := ⟨_, _, _, _, hve⟩
  clear hve
  obtain ⟨R, hR⟩ : ∃ R, Hid (Dn.stepR t l day F lab wh = R) := ⟨_, hid' rfl⟩
  rw [hR.out]
  have z1 : ∀ (W : World) (o : Obj) (k : Nat) (x : Obj), W.heap[k]? = some x → (W.alloc o).heap[k]? = some x := fun W o k x h => (((Below.refl W.heap.size W).alloc (Nat.le_refl _) o).block k (lt_of_block h)).trans h
  have HB0 := hid' (((Below.refl w.heap.size w).alloc (Nat.le_refl _) (.cells #[.int .i64 op, .int .i64 n, .string s, .slice p ln c] 24)).alloc (by simp) (.cells #[.string lab, .int .i64 wh] 37))
  have HC0 := hid' (z1 _ (.cells #[.string lab, .int .i64 wh] 37) _ _ (heap_alloc_new w (.cells #[.int .i64 op, .int .i64 n, .string s, .slice p ln c] 24)))
  have HP0 := hid' (show ((w.alloc (.cells #[.int .i64 op, .int .i64 n, .string s, .slice p ln c] 24)).alloc (.cells #[.string lab, .int .i64 wh] 37)).heap[w.heap.size + 1]? = some (.cells #[.string lab, .int .i64 wh] 37 (0, 0)) from by
    have := heap_alloc_new (w.alloc (.cells #[.int .i64 op, .int .i64 n, .string s, .slice p ln c] 24)) (.cells #[.string lab, .int .i64 wh] 37)
    simpa only [World.size_alloc] using this)
  have HV := hid' hv
  have HF := hid' hF
  have HLV := hid' hl
  obtain ⟨fp, fc, rfl, -, -⟩ := hF
  obtain ⟨lp, lc, rfl, ⟨hl1, hl2⟩, -⟩ := hl
  have hbig : (l.length : Int) ≤ 9223372036854775807 := by unfold maxLen at hl2; omega
  have HSZ := hid' hsz
  clear hv hsz z1 hl1 hl2
  go_enter Tryz.func8, Tryz.ntmps8
  go_upto_region 1 with (fail)
  generalize World.alloc _ _ = w0 at *
  have HS := hid' (Runs.start w0 day (.slice fp F.length fc))
  have hb1 := (Below.refl w0.heap.size w0).alloc (Nat.le_refl _) (.cells #[.int .i64 day, .slice fp F.length fc, .slice none 0 0, .slice none 0 0] 54)
  have HB01 := hid' hb1
  have HB1 := hid' (HB0.out.trans (hb1.mono HB0.out.size))
  have HC1 := hid' (box_below hb1 HC0.out)
  have HP1 := hid' (box_below hb1 HP0.out)
  have HLT := hid' (show w.heap.size ≤ w0.heap.size ∧ w.heap.size + 1 < w0.heap.size from ⟨HB0.out.size, lt_of_block HP0.out⟩)
  go_upto_region 2 with (fail)
  obtain ⟨rb, hrb⟩ : ∃ rb, rb = w0.heap.size := ⟨_, rfl⟩
  rw [← hrb] at HS ⊢
  have HRB := hid' hrb
  clear hb1 hrb
  generalize World.alloc w0 _ = w1 at *
  have HCK := hid' (fun W (h : Below w1.heap.size w1 W) => checkT_any t _ W ((HV.out.under (HB1.out.trans (h.mono HB1.out.size))).at' (Nat.le_refl _)) HSZ.out)
  have HRT := hid' (fun W (h : Below w1.heap.size w1 W) => dnright_any day _ F W (HF.out.below (HB1.out.trans (h.mono HB1.out.size))))
  have HPK := hid' (fun W => dnpick_any lab wh W hlab)
  obtain ⟨C, hC⟩ : ∃ C, Hid (t.check = C) := ⟨_, hid' rfl⟩
  obtain ⟨G, hG⟩ : ∃ G, Hid ((dayOk day && Fd.right F) = G) := ⟨_, hid' rfl⟩
  obtain ⟨PK, hPK⟩ : ∃ G, Hid (pickB lab wh = G) := ⟨_, hid' rfl⟩
  rw [hC.out] at HCK
  rw [hG.out] at HRT
  rw [hPK.out] at HPK
  obtain ⟨d0, d1, d2, d3⟩ := heap_cells4 HC1.out
  have r0 := bcells HS.out.box 0 _ rfl
  have r1 := bcells HS.out.box 1 _ rfl
  have p0 := bcells HP1.out 0 _ rfl
  have p1 := bcells HP1.out 1 _ rfl
  clear hlab
  by_cases hc0 : C = 0
  rotate_left
  · have g0 : (C != 0) = true := by rw [bne_iff_ne]; exact hc0
    have e := hid' (show R = none by
      rw [← hR.out]
      unfold Dn.stepR
      rw [if_neg]
      rintro ⟨h1, -⟩
      exact hc0 (by rw [← hC.out]; exact (Co.check_good t).2 h1))
    clear hc0
    go_wp2_with (first | (go_at_call 10; refine (HCK.out _ (Below.refl _ _)).mono ?_; rintro e w2 ⟨rfl, b2⟩; have HB2 := hid' b2; have r0' := keep_all b2 _ _ r0; have r1' := keep_all b2 _ _ r1; have p0' := keep_all b2 _ _ p0; have p1' := keep_all b2 _ _ p1; clear b2))
    exact bodyPost_ret (results_tmp3 rfl _ _ _) rfl ⟨HB1.out.trans (HB2.out.mono HB1.out.size), by rw [e.out]; rfl⟩
  subst hc0
  have hgood := hid' ((Co.check_good t).1 hC.out)
  cases G with
  | false =>
    have e := hid' (show R = none by
      rw [← hR.out]
      unfold Dn.stepR
      rw [if_neg]
      rintro ⟨-, h2, h3, -⟩
      have h := hG.out
      rw [h2, Fd.right_yes h3] at h
      cases h)
    go_wp2_with (first | (go_at_call 10; refine (HCK.out _ (Below.refl _ _)).mono ?_; rintro e w2 ⟨rfl, b2⟩; have HB2 := hid' b2; have r0' := keep_all b2 _ _ r0; have r1' := keep_all b2 _ _ r1; have p0' := keep_all b2 _ _ p0; have p1' := keep_all b2 _ _ p1; clear b2) | (go_at_call 11; refine (HRT.out _ HB2.out).mono ?_; rintro e w3 ⟨rfl, b3⟩; have HB3 := hid' (Below.more HB2.out b3); have p0'' := keep_all b3 _ _ p0'; have p1'' := keep_all b3 _ _ p1'; clear b3))
    exact bodyPost_ret (results_tmp3 rfl _ _ _) rfl ⟨HB1.out.trans (HB3.out.mono HB1.out.size), by rw [e.out]; rfl⟩
  | true =>
  cases PK with
  | false =>
    have e := hid' (show R = none by
      rw [← hR.out]
      unfold Dn.stepR
      rw [if_neg]
      rintro ⟨-, -, -, h4, -⟩
      rw [hPK.out] at h4
      cases h4)
    go_wp2_with (first | (go_at_call 10; refine (HCK.out _ (Below.refl _ _)).mono ?_; rintro e w2 ⟨rfl, b2⟩; have HB2 := hid' b2; have r0' := keep_all b2 _ _ r0; have r1' := keep_all b2 _ _ r1; have p0' := keep_all b2 _ _ p0; have p1' := keep_all b2 _ _ p1; clear b2) | (go_at_call 11; refine (HRT.out _ HB2.out).mono ?_; rintro e w3 ⟨rfl, b3⟩; have HB3 := hid' (Below.more HB2.out b3); have p0'' := keep_all b3 _ _ p0'; have p1'' := keep_all b3 _ _ p1'; clear b3) | (go_at_call 15; refine (HPK.out _).mono ?_; rintro e w4 ⟨rfl, b4⟩; have HB4 := hid' (Below.more HB3.out b4); clear b4))
    exact bodyPost_ret (results_tmp3 rfl _ _ _) rfl ⟨HB1.out.trans (HB4.out.mono HB1.out.size), by rw [e.out]; rfl⟩
  | true =>
  have hok : dayOk day = true ∧ Fd.Ok F := by
    have h := hG.out
    rw [Bool.and_eq_true] at h
    exact ⟨h.1, Fd.right_ok h.2⟩
  have HOK := hid' hok
  have HDAY := hid' (show 0 ≤ day ∧ day ≤ 73048 by
    have h := hok.1
    unfold dayOk at h
    simpa using h)
  have HEN := hid' (show RunEnv w0 rb F day (.slice fp F.length fc) from ⟨HF.out.below HB0.out, HOK.out.2, HDAY.out, by rw [HRB.out]; exact Nat.le_refl _⟩)
  have HEO := hid' (Dn.eyes_ok HOK.out.2 day)
  have hsm := (Co.small_iff t).1 hgood.out.1
  have HSM := hid' hsm.1
  clear hok hsm
  go_upto_region 4 with (first | (go_at_call 10; refine (HCK.out _ (Below.refl _ _)).mono ?_; rintro e w2 ⟨rfl, b2⟩; have HB2 := hid' b2; have r0' := keep_all b2 _ _ r0; have r1' := keep_all b2 _ _ r1; have p0' := keep_all b2 _ _ p0; have p1' := keep_all b2 _ _ p1; clear b2) | (go_at_call 11; refine (HRT.out _ HB2.out).mono ?_; rintro e w3 ⟨rfl, b3⟩; have HB3 := hid' (Below.more HB2.out b3); have p0'' := keep_all b3 _ _ p0'; have p1'' := keep_all b3 _ _ p1'; clear b3) | (go_at_call 15; refine (HPK.out _).mono ?_; rintro e w4 ⟨rfl, b4⟩; have HB4 := hid' (Below.more HB3.out b4); clear b4))
  clear d0 d1 d2 d3 r0' r1' r0 r1 p0 p1 p0' p1' p0'' p1'' HB2 HB3
  obtain ⟨d0, d1, d2, d3⟩ := heap_cells4 (box_below HB4.out HC1.out)
  have HRS := hid' (show rb + 1 ≤ w4.heap.size from Nat.le_trans (HS.out.lt) HB4.out.size)
  obtain ⟨tl, htl⟩ : ∃ tl, Hid (Dn.pre t = tl) := ⟨_, hid' rfl⟩
  have HTM := hid' (dnterms_any ok w0 (rb + 1) (by rw [HRB.out]; exact Nat.le_succ _) t _ (.slice none 0 0) [] w4 (HV.out.under HB0.out) (by
    have h := HB4.out
    exact (HB01.out.trans (h.mono HB01.out.size))) (TermRow.nil ok w0 (rb + 1) w4) HRS.out (by simp only [List.length_nil]; have := HSM.out; omega))
  rw [List.nil_append, htl.out] at HTM
  go_upto_region 5 with (first | (go_at_call 16; refine HTM.out.mono ?_; rintro e w5 ⟨vt, rfl, ht5, g5, -⟩; have HT5 := hid' ht5; have HG5 := hid' g5; clear ht5 g5))
  clear d0 d1 d2 d3
  have HB45 := hid' (show Below w4.heap.size w4 w5 from ⟨HG5.out.os, HG5.out.tape, HG5.out.output, HG5.out.size, fun k hk => HG5.out.block k hk (by simp [Value.ownBlock])⟩)
  have b6 := (Below.refl w5.heap.size w5).alloc (Nat.le_refl _) (.cells #[.int .i64 26, .int .i64 28, .int .i64 29, .int .i64 30, .int .i64 31] 3)
  have n6 := heap_alloc_new w5 (.cells #[.int .i64 26, .int .i64 28, .int .i64 29, .int .i64 30, .int .i64 31] 3)
  go_upto_region 6 with (fail)
  obtain ⟨ob, hob⟩ : ∃ ob, ob = w5.heap.size := ⟨_, rfl⟩
  rw [← hob] at n6 ⊢
  have HN6 := hid' n6
  have HB6 := hid' ((HB4.out.trans (HB45.out.mono HB4.out.size)).trans (b6.mono (HB4.out.trans (HB45.out.mono HB4.out.size)).size))
  have HT6 := hid' (HT5.out.kept b6)
  clear b6 n6 hob HG5 HB45 HT5
  generalize World.alloc w5 _ = w6 at *
  have HR6 := hid' (HS.out.below HB6.out)
  have HL6 := hid' (HLV.out.below (HB1.out.trans (HB6.out.mono HB1.out.size)))
  have HTN := hid' (show tl.length ≤ 2000 ∧ (∀ m, m < tl.length → ∃ u, tl[m]? = some u) from ⟨by rw [← htl.out, Dn.pre_len]; exact HSM.out, fun m hm => ⟨_, List.getElem?_eq_getElem hm⟩⟩)
  obtain ⟨tg, tc, rfl⟩ : ∃ tg tc, vt = .slice (some ⟨tg, 0, none⟩) tl.length tc := by
    have h0 : 0 < tl.length := by rw [← htl.out, Dn.pre_len]; exact Co.size_pos t
    obtain ⟨u, hu⟩ := HTN.out.2 0 h0
    obtain ⟨g, cap, _, _, _, _, e, -⟩ := HT6.out.cells hu
    exact ⟨g, cap, e⟩
  go_wp2_with fail
  have HA0 := hid' (show ∀ j, j < 0 → ∀ y, l[j]? = some y → Dn.LiveOk tl l j y from fun j hj => by omega)
  go_loopw [47] (fun iv wr => ∃ i : Nat, iv = .int .i64 (i : Int) ∧ i ≤ l.length ∧ Hid (∀ j, j < i → ∀ y, l[j]? = some y → Dn.LiveOk tl l j y) ∧ Hid (Below w6.heap.size w6 wr)) (fun iv _ => l.length - (intOf iv).toNat)
  case atStart => exact ⟨0, rfl, Nat.zero_le _, HA0, Below.refl _ _⟩
  case round =>
    obtain ⟨i, rfl, hi, HA, HW⟩ := hrel
    by_cases hin : i < l.length
    · obtain ⟨x, hx⟩ : ∃ x, l[i]? = some x := ⟨_, List.getElem?_eq_getElem hin⟩
      obtain ⟨lp', lc', e, -, hlc⟩ := HL6.out
      cases e
      obtain ⟨lb, lo, rfl, -, ⟨y0, y1⟩, -, -⟩ := hlc i x hx
      replace y0 := keep_all HW.out _ _ y0
      replace y1 := keep_all HW.out _ _ y1
      have j1 : (0 : Int) ≤ (i : Int) := by omega
      have j2 : (i : Int) < (l.length : Int) := by omega
      have wi : IntKind.i64.wrap ((i : Int) + 1) = (i : Int) + 1 := IntWalk.i64_in _ (by omega)
      have HX := hid' hx
      have HI := hid' hin
      have HLC := hid' hlc
      clear hx hin hlc
      obtain ⟨xa, xf⟩ := x
      go_upto_region 9 with (fail)
      have BX := (Below.refl wr.heap.size wr).alloc (Nat.le_refl _) (.cells #[.int .i64 xa, .int .i64 xf] 63)
      have hbx := heap_alloc_new wr (.cells #[.int .i64 xa, .int .i64 xf] 63)
      have HB9 := hid' (Below.more HW.out BX)
      have HBX := hid' hbx
      clear BX hbx y0 y1
      generalize World.alloc wr _ = w9 at *
      generalize wr.heap.size = xb at *
      obtain ⟨bad, hbad⟩ : ∃ bad, Hid (bad = Dn.liveBad tl l i (xa, xf)) := ⟨_, rfl⟩
      go_cut [95] (fun v wx => v = .bool bad ∧ Hid (Below w9.heap.size w9 wx))
      case first =>
        have hb := hid' (show bad = (decide (xa < 0) || (decide ((tl.length : Int) ≤ xa) || (Fd.prevLate l i xa || (!(xf == Num.clamp xf) || !Dn.waitOps.contains (tl.getD xa.toNat default).op)))) from hbad.out)
        have hbx := (Below.refl w9.heap.size w9).drew
        have HK := hid' (fun (W : World) (b : Below w9.heap.size w9 W) => And.intro (bcells (box_below b HBX.out) 0 _ rfl) (And.intro (bcells (box_below b HBX.out) 1 _ rfl) trivial))
        by_cases h0 : xa < 0
        · have g0 : decide (xa < 0) = true := decide_eq_true h0
          have hq := hid' (show bad = true by rw [hb.out, g0]; rfl)
          clear hb h0 wi
          refine wp_region_keep (fun w' => Below w9.heap.size w9 w') (by kernel_rfl) (by kernel_rfl) hbx ?_
          repeat (first
            | (refine wpKeep_skip ?_ ?_
               · rfl
               simp only [Act.put, List.setIfInBounds_toArray, List.set_cons_zero, List.set_cons_succ])
            | (apply wpKeep_val
               · rfl
               · (intro w hSw; obtain ⟨c0, c1, c2⟩ := HK.out w hSw; first | (go_simp; done) | (go_simp; with_reducible rfl))
               simp only [Act.put, List.setIfInBounds_toArray, List.set_cons_zero, List.set_cons_succ]))
          refine wpKeep_nil ?_
          intro w' hS'
          go_wp2_with fail
          go_meet
          exact ⟨by rw [hq.out] <;> rfl, hS'⟩
        · have g0 : decide (xa < 0) = false := decide_eq_false h0
          obtain ⟨m, rfl⟩ : ∃ m : Nat, xa = (m : Int) := ⟨xa.toNat, by omega⟩
          rw [g0] at hb
          by_cases h1 : tl.length ≤ m
          · have g1 : decide ((tl.length : Int) ≤ (m : Int)) = true := decide_eq_true (by omega)
            have g1n : decide (tl.length ≤ m) = true := decide_eq_true h1
            have hq := hid' (show bad = true by rw [hb.out, g1]; rfl)
            clear hb h0 h1 wi
            refine wp_region_keep (fun w' => Below w9.heap.size w9 w') (by kernel_rfl) (by kernel_rfl) hbx ?_
            repeat (first
              | (refine wpKeep_skip ?_ ?_
                 · rfl
                 simp only [Act.put, List.setIfInBounds_toArray, List.set_cons_zero, List.set_cons_succ])
              | (apply wpKeep_val
                 · rfl
                 · (intro w hSw; obtain ⟨c0, c1, c2⟩ := HK.out w hSw; first | (go_simp; done) | (go_simp; with_reducible rfl))
                 simp only [Act.put, List.setIfInBounds_toArray, List.set_cons_zero, List.set_cons_succ]))
            refine wpKeep_nil ?_
            intro w' hS'
            go_wp2_with fail
            go_meet
            exact ⟨by rw [hq.out] <;> rfl, hS'⟩
          · have g1 : decide ((tl.length : Int) ≤ (m : Int)) = false := decide_eq_false (by omega)
            have g1n : decide (tl.length ≤ m) = false := decide_eq_false h1
            rw [g1] at hb
            obtain ⟨u, hu⟩ := HTN.out.2 m (by omega)
            obtain ⟨g', cap', ux, uy, uz, us, e', hgb, hcu, hcells⟩ := HT6.out.cells hu
            cases e'
            obtain ⟨up, uc, hue, -⟩ := hcu.open
            obtain ⟨rfl, -⟩ : ux = .int .i64 u.op ∧ True := by simp at hue; exact ⟨hue.1, trivial⟩
            obtain ⟨uo, huo⟩ : ∃ uo, Hid (u.op = uo) := ⟨_, hid' rfl⟩
            have hgt : tl.getD ((m : Int).toNat) default = u := by rw [Int.toNat_natCast, List.getD_eq_getElem?_getD, hu]; rfl
            rw [hgt, huo.out] at hb
            rw [huo.out] at hcells
            have HTG := hid' (show tg < w6.heap.size from (HT6.out.far rfl).2)
            have HU := hid' (fun (W : World) (b : Below w9.heap.size w9 W) => (hcells W (by
              have h1 := (Below.more HB9.out b).block tg HTG.out
              exact h1)).1)
            have HON := hid' (fun (W : World) (b : Below w9.heap.size w9 W) => Tryz.slices_Contains_int ob 0 5 5 Dn.waitOps uo W (by decide) (by decide) (by
              intro j hj
              have hbk := box_below (Below.more HB9.out b) HN6.out
              have hj5 : j < 5 := hj
              rw [Nat.zero_add]
              exact bcells hbk j _ (by
                match j, hj5 with
                | 0, _ => rfl
                | 1, _ => rfl
                | 2, _ => rfl
                | 3, _ => rfl
                | 4, _ => rfl)))
            rw [show (Dn.waitOps.take 5) = Dn.waitOps from rfl] at HON
            have k1 : (0 : Int) ≤ (m : Int) := by omega
            have k2 : (m : Int) < (tl.length : Int) := by omega
            obtain ⟨cn, hcn⟩ : ∃ cn, Hid (Dn.waitOps.contains uo = cn) := ⟨_, hid' rfl⟩
            obtain ⟨cl, hcl⟩ : ∃ cl, (xf == Num.clamp xf) = cl := ⟨_, rfl⟩
            rw [hcl, hcn.out] at hb
            rw [hcn.out] at HON
            have hcl2 : (xf != Num.clamp xf) = !cl := by rw [← hcl]; rfl
            clear hcl hu hcells hgt hue hcu h0 h1 hgb
            cases i with
            | zero =>
              have gi : decide ((0 : Int) < ((0 : Nat) : Int)) = false := rfl
              clear wi
              cases cl with
              | false =>
                have hq := hid' (show bad = true from hb.out)
                clear hb
                refine wp_region_keep (fun w' => Below w9.heap.size w9 w') (by kernel_rfl) (by kernel_rfl) hbx ?_
                repeat (first
                  | (refine wpKeep_skip ?_ ?_
                     · rfl
                     simp only [Act.put, List.setIfInBounds_toArray, List.set_cons_zero, List.set_cons_succ])
                  | (apply wpKeep_call 17 #[.int .i64 xf]
                     · rfl
                     · (intro w hSw; obtain ⟨c0, c1, c2⟩ := HK.out w hSw; have cu := HU.out w hSw; go_simp; done)
                     · (intro w hSw; exact (clamp_any xf w).mono fun e w'' h => ⟨h.1, by rw [h.2]; exact hSw⟩)
                     simp only [Act.put, List.setIfInBounds_toArray, List.set_cons_zero, List.set_cons_succ])
                  | (apply wpKeep_call 18 #[.slice (some ⟨ob, 0, none⟩) 5 5, .int .i64 uo]
                     · rfl
                     · (intro w hSw; obtain ⟨c0, c1, c2⟩ := HK.out w hSw; have cu := HU.out w hSw; go_simp; done)
                     · (intro w hSw; exact (HON.out w hSw).mono fun e w'' h => ⟨h.1, by rw [h.2]; exact hSw⟩)
                     simp only [Act.put, List.setIfInBounds_toArray, List.set_cons_zero, List.set_cons_succ])
                  | (apply wpKeep_val
                     · rfl
                     · (intro w hSw; obtain ⟨c0, c1, c2⟩ := HK.out w hSw; have cu := HU.out w hSw; first | (go_simp; done) | (go_simp; with_reducible rfl))
                     simp only [Act.put, List.setIfInBounds_toArray, List.set_cons_zero, List.set_cons_succ]))
                refine wpKeep_nil ?_
                intro w' hS'
                go_wp2_with fail
                go_meet
                exact ⟨by rw [hq.out] <;> rfl, hS'⟩
              | true =>
                have hq := hid' (show bad = !cn from hb.out)
                clear hb
                refine wp_region_keep (fun w' => Below w9.heap.size w9 w') (by kernel_rfl) (by kernel_rfl) hbx ?_
                repeat (first
                  | (refine wpKeep_skip ?_ ?_
                     · rfl
                     simp only [Act.put, List.setIfInBounds_toArray, List.set_cons_zero, List.set_cons_succ])
                  | (apply wpKeep_call 17 #[.int .i64 xf]
                     · rfl
                     · (intro w hSw; obtain ⟨c0, c1, c2⟩ := HK.out w hSw; have cu := HU.out w hSw; go_simp; done)
                     · (intro w hSw; exact (clamp_any xf w).mono fun e w'' h => ⟨h.1, by rw [h.2]; exact hSw⟩)
                     simp only [Act.put, List.setIfInBounds_toArray, List.set_cons_zero, List.set_cons_succ])
                  | (apply wpKeep_call 18 #[.slice (some ⟨ob, 0, none⟩) 5 5, .int .i64 uo]
                     · rfl
                     · (intro w hSw; obtain ⟨c0, c1, c2⟩ := HK.out w hSw; have cu := HU.out w hSw; go_simp; done)
                     · (intro w hSw; exact (HON.out w hSw).mono fun e w'' h => ⟨h.1, by rw [h.2]; exact hSw⟩)
                     simp only [Act.put, List.setIfInBounds_toArray, List.set_cons_zero, List.set_cons_succ])
                  | (apply wpKeep_val
                     · rfl
                     · (intro w hSw; obtain ⟨c0, c1, c2⟩ := HK.out w hSw; have cu := HU.out w hSw; first | (go_simp; done) | (go_simp; with_reducible rfl))
                     simp only [Act.put, List.setIfInBounds_toArray, List.set_cons_zero, List.set_cons_succ]))
                refine wpKeep_nil ?_
                intro w' hS'
                go_wp2_with fail
                go_meet
                exact ⟨by rw [hq.out] <;> rfl, hS'⟩
            | succ j =>
              clear wi
              obtain ⟨y, hy⟩ : ∃ y, l[j]? = some y := ⟨_, List.getElem?_eq_getElem (by have := HI.out; omega)⟩
              obtain ⟨lb', lo', e, -, ⟨y0, -⟩, -, -⟩ := HLC.out j y hy
              obtain ⟨rfl, rfl⟩ : lb = lb' ∧ lo = lo' := by simpa using e
              have HKY := hid' (fun (W : World) (b : Below w9.heap.size w9 W) => keep_all (Below.more HB9.out b) _ _ y0)
              have hpv : Hid (Fd.prevLate l (j + 1) (m : Int) = decide ((m : Int) ≤ y.1)) := hid' (by show decide ((m : Int) ≤ (Fd.stampAt l j).1) = _; rw [Fd.stampAt_eq hy])
              rw [hpv.out] at hb
              have gi : decide ((0 : Int) < ((j + 1 : Nat) : Int)) = true := decide_eq_true (by omega)
              have gin : decide (0 < j + 1) = true := decide_eq_true (by omega)
              have g5 : (0 : Int) ≤ (j : Int) := by omega
              have g6 : (j : Int) < (l.length : Int) := by have := HI.out; omega
              have g3 : IntKind.i64.wrap (j : Int) = (j : Int) := IntWalk.i64_in _ (by omega)
              have g4 : IntKind.i64.wrap (((j + 1 : Nat) : Int) - 1) = (j : Int) := by rw [IntWalk.i64_in _ (by omega)]; omega
              clear hpv hy e y0 j1 j2 hi
              cases hlt : decide ((m : Int) ≤ y.1) with
              | true =>
                rw [hlt] at hb
                have hq := hid' (show bad = true from hb.out)
                clear hb
                refine wp_region_keep (fun w' => Below w9.heap.size w9 w') (by kernel_rfl) (by kernel_rfl) hbx ?_
                repeat (first
                  | (refine wpKeep_skip ?_ ?_
                     · rfl
                     simp only [Act.put, List.setIfInBounds_toArray, List.set_cons_zero, List.set_cons_succ])
                  | (apply wpKeep_call 17 #[.int .i64 xf]
                     · rfl
                     · (intro w hSw; obtain ⟨c0, c1, c2⟩ := HK.out w hSw; have cu := HU.out w hSw; have cy := HKY.out w hSw; go_simp; done)
                     · (intro w hSw; exact (clamp_any xf w).mono fun e w'' h => ⟨h.1, by rw [h.2]; exact hSw⟩)
                     simp only [Act.put, List.setIfInBounds_toArray, List.set_cons_zero, List.set_cons_succ])
                  | (apply wpKeep_call 18 #[.slice (some ⟨ob, 0, none⟩) 5 5, .int .i64 uo]
                     · rfl
                     · (intro w hSw; obtain ⟨c0, c1, c2⟩ := HK.out w hSw; have cu := HU.out w hSw; have cy := HKY.out w hSw; go_simp; done)
                     · (intro w hSw; exact (HON.out w hSw).mono fun e w'' h => ⟨h.1, by rw [h.2]; exact hSw⟩)
                     simp only [Act.put, List.setIfInBounds_toArray, List.set_cons_zero, List.set_cons_succ])
                  | (apply wpKeep_val
                     · rfl
                     · (intro w hSw; obtain ⟨c0, c1, c2⟩ := HK.out w hSw; have cu := HU.out w hSw; have cy := HKY.out w hSw; first | (go_simp; done) | (go_simp; with_reducible rfl))
                     simp only [Act.put, List.setIfInBounds_toArray, List.set_cons_zero, List.set_cons_succ]))
                refine wpKeep_nil ?_
                intro w' hS'
                go_wp2_with fail
                go_meet
                exact ⟨by rw [hq.out] <;> rfl, hS'⟩
              | false =>
                rw [hlt] at hb
                cases cl with
                | false =>
                  have hq := hid' (show bad = true from hb.out)
                  clear hb
                  refine wp_region_keep (fun w' => Below w9.heap.size w9 w') (by kernel_rfl) (by kernel_rfl) hbx ?_
                  repeat (first
                    | (refine wpKeep_skip ?_ ?_
                       · rfl
                       simp only [Act.put, List.setIfInBounds_toArray, List.set_cons_zero, List.set_cons_succ])
                    | (apply wpKeep_call 17 #[.int .i64 xf]
                       · rfl
                       · (intro w hSw; obtain ⟨c0, c1, c2⟩ := HK.out w hSw; have cu := HU.out w hSw; have cy := HKY.out w hSw; go_simp; done)
                       · (intro w hSw; exact (clamp_any xf w).mono fun e w'' h => ⟨h.1, by rw [h.2]; exact hSw⟩)
                       simp only [Act.put, List.setIfInBounds_toArray, List.set_cons_zero, List.set_cons_succ])
                    | (apply wpKeep_call 18 #[.slice (some ⟨ob, 0, none⟩) 5 5, .int .i64 uo]
                       · rfl
                       · (intro w hSw; obtain ⟨c0, c1, c2⟩ := HK.out w hSw; have cu := HU.out w hSw; have cy := HKY.out w hSw; go_simp; done)
                       · (intro w hSw; exact (HON.out w hSw).mono fun e w'' h => ⟨h.1, by rw [h.2]; exact hSw⟩)
                       simp only [Act.put, List.setIfInBounds_toArray, List.set_cons_zero, List.set_cons_succ])
                    | (apply wpKeep_val
                       · rfl
                       · (intro w hSw; obtain ⟨c0, c1, c2⟩ := HK.out w hSw; have cu := HU.out w hSw; have cy := HKY.out w hSw; first | (go_simp; done) | (go_simp; with_reducible rfl))
                       simp only [Act.put, List.setIfInBounds_toArray, List.set_cons_zero, List.set_cons_succ]))
                  refine wpKeep_nil ?_
                  intro w' hS'
                  go_wp2_with fail
                  go_meet
                  exact ⟨by rw [hq.out] <;> rfl, hS'⟩
                | true =>
                  have hq := hid' (show bad = !cn from hb.out)
                  clear hb
                  refine wp_region_keep (fun w' => Below w9.heap.size w9 w') (by kernel_rfl) (by kernel_rfl) hbx ?_
                  repeat (first
                    | (refine wpKeep_skip ?_ ?_
                       · rfl
                       simp only [Act.put, List.setIfInBounds_toArray, List.set_cons_zero, List.set_cons_succ])
                    | (apply wpKeep_call 17 #[.int .i64 xf]
                       · rfl
                       · (intro w hSw; obtain ⟨c0, c1, c2⟩ := HK.out w hSw; have cu := HU.out w hSw; have cy := HKY.out w hSw; go_simp; done)
                       · (intro w hSw; exact (clamp_any xf w).mono fun e w'' h => ⟨h.1, by rw [h.2]; exact hSw⟩)
                       simp only [Act.put, List.setIfInBounds_toArray, List.set_cons_zero, List.set_cons_succ])
                    | (apply wpKeep_call 18 #[.slice (some ⟨ob, 0, none⟩) 5 5, .int .i64 uo]
                       · rfl
                       · (intro w hSw; obtain ⟨c0, c1, c2⟩ := HK.out w hSw; have cu := HU.out w hSw; have cy := HKY.out w hSw; go_simp; done)
                       · (intro w hSw; exact (HON.out w hSw).mono fun e w'' h => ⟨h.1, by rw [h.2]; exact hSw⟩)
                       simp only [Act.put, List.setIfInBounds_toArray, List.set_cons_zero, List.set_cons_succ])
                    | (apply wpKeep_val
                       · rfl
                       · (intro w hSw; obtain ⟨c0, c1, c2⟩ := HK.out w hSw; have cu := HU.out w hSw; have cy := HKY.out w hSw; first | (go_simp; done) | (go_simp; with_reducible rfl))
                       simp only [Act.put, List.setIfInBounds_toArray, List.set_cons_zero, List.set_cons_succ]))
                  refine wpKeep_nil ?_
                  intro w' hS'
                  go_wp2_with fail
                  go_meet
                  exact ⟨by rw [hq.out] <;> rfl, hS'⟩
      case rest =>
        obtain ⟨rfl, HBC⟩ := hcut
        have HWC := hid' (Below.more HB9.out HBC.out)
        clear HBX HB9 HBC
        cases hb2 : bad with
        | true =>
          have e := hid' (show R = none by
            rw [← hR.out]
            unfold Dn.stepR
            rw [if_neg]
            rintro ⟨-, -, -, -, h5⟩
            rw [htl.out] at h5
            exact Dn.live_bad HI.out (hbad.out.symm.trans hb2) (h5 i _ HX.out))
          clear hb2
          go_wp2_with fail
          exact bodyPost_ret (results_tmp3 rfl _ _ _) rfl ⟨HB1.out.trans ((Below.more HB6.out HWC.out).mono HB1.out.size), by rw [e.out]; rfl⟩
        | false =>
          have hgood2 := Dn.live_good (hbad.out.symm.trans hb2)
          have HNX := hid' (show ∀ j, j < i + 1 → ∀ y, l[j]? = some y → Dn.LiveOk tl l j y from fun j hj y hy => by
            rcases (by omega : j < i ∨ j = i) with h | rfl
            · exact HA.out j h y hy
            · obtain rfl : (xa, xf) = y := by have := HX.out.symm.trans hy; simpa using this
              exact hgood2)
          clear hgood2 hb2
          go_wp2_with fail
          go_roundw
          case rel => exact ⟨i + 1, by go_num, by have := HI.out; omega, HNX, HWC⟩
          case measure => have := HI.out; simp [intOf]; omega
    · obtain rfl : i = l.length := by omega
      have HLOK := hid' (show Dn.LivesOk tl l from fun j y hy => HA.out j (List.getElem?_eq_some_iff.1 hy).1 y hy)
      have j3 : decide (l.length < l.length) = false := by simp
      have e := hid' (show R = some (Dn.stepAll (Dn.eyes F day) lab wh tl l) by
        rw [← hR.out, ← htl.out]
        unfold Dn.stepR
        rw [if_pos ⟨hgood.out, HOK.out.1, HOK.out.2, hPK.out, by rw [htl.out]; exact HLOK.out⟩])
      have HRW := hid' (HR6.out.below HW.out)
      have HTW := hid' (HT6.out.kept HW.out)
      have HKW := hid' (show Below rb w0 wr from HRW.out.bel)
      clear hin HA hi
      have HRW0 := hid' (show Runs w0 rb day (.slice fp F.length fc) (Dn.stepAll (Dn.eyes F day) lab wh tl (l.take 0)).1 (Dn.stepAll (Dn.eyes F day) lab wh tl (l.take 0)).2 (.slice none 0 0) (.slice none 0 0) wr from by
        rw [List.take_zero]; exact HRW.out)
      have hwlr : w.heap.size ≤ rb := by rw [HRB.out]; exact HLT.out.1
      have HRD := hid' (fun (W : World) (h : Below rb w0 W) (b k : Nat) (v : Value) (hb : b < w.heap.size) (hc : w.cell? ⟨b, k, none⟩ = some v) => (show W.cell? ⟨b, k, none⟩ = some v from (h.cell (p := ⟨b, k, none⟩) (Nat.lt_of_lt_of_le hb hwlr)).trans (keep_all HB0.out _ _ hc)))
      have HPC := hid' (fun (W : World) (h : Below rb w0 W) => (show W.heap[w.heap.size + 1]? = _ from (h.block _ (by rw [HRB.out]; exact HLT.out.2)).trans HP0.out))
      have HTL := hid' (show ∀ i, i ≤ l.length → (Dn.stepAll (Dn.eyes F day) lab wh tl (l.take i)).1.length ≤ 4000000 ∧ (Dn.stepAll (Dn.eyes F day) lab wh tl (l.take i)).2.length ≤ 4000000 from fun i hi => by
        have h1 := Dn.stepAll_len HEO.out lab wh (t := t) (by rw [hgood.out.2.1]; decide) (l := l) (by rw [htl.out]; exact HLOK.out) i hi
        rw [htl.out] at h1
        have h2 := Dn.lives_len HLOK.out
        have h3 := HTN.out.1
        have h4 : i * t.size ≤ 2000 * 2000 := Nat.mul_le_mul (by omega) HSM.out
        omega)
      have HTX := hid' (show ∀ (m : Nat) (u : Co.T), tl[m]? = some u → u.letter ≠ 0 ∧ u.size ≤ 2000 from fun m u hu => by
        rw [← htl.out] at hu
        have hm := List.mem_of_getElem? hu
        exact ⟨Dn.pre_ne t (by rw [hgood.out.2.1]; decide) u hm, Nat.le_trans (Dn.pre_size t u hm) HSM.out⟩)
      clear hwlr
      go_wp2_with fail
      go_loopw [99] (fun iv wz => ∃ (i : Nat) (vl vo : Value), iv = .int .i64 (i : Int) ∧ i ≤ l.length ∧ Hid (Runs w0 rb day (.slice fp F.length fc) (Dn.stepAll (Dn.eyes F day) lab wh tl (l.take i)).1 (Dn.stepAll (Dn.eyes F day) lab wh tl (l.take i)).2 vl vo wz) ∧ Hid (TermRow ok w0 (rb + 1) tl (.slice (some ⟨tg, 0, none⟩) tl.length tc) wz)) (fun iv _ => l.length - (intOf iv).toNat)
      case atStart => exact ⟨0, _, _, rfl, Nat.zero_le _, HRW0, HTW⟩
      case round =>
        clear HRW HTW HKW HRW0 HW j3
        obtain ⟨i, vl, vo, rfl, hi, HRI, HTI⟩ := hrel
        by_cases hin : i < l.length
        · obtain ⟨x, hx⟩ : ∃ x, l[i]? = some x := ⟨_, List.getElem?_eq_getElem hin⟩
          obtain ⟨lp', lc', e', -, hlc⟩ := HLV.out
          cases e'
          obtain ⟨lb, lo, rfl, hlb, ⟨y0, y1⟩, -, -⟩ := hlc i x hx
          replace y0 := HRD.out _ HRI.out.bel _ _ _ hlb y0
          replace y1 := HRD.out _ HRI.out.bel _ _ _ hlb y1
          have j1 : (0 : Int) ≤ (i : Int) := by omega
          have j2 : (i : Int) < (l.length : Int) := by omega
          have wi : IntKind.i64.wrap ((i : Int) + 1) = (i : Int) + 1 := IntWalk.i64_in _ (by omega)
          have hlo := HLOK.out i x hx
          obtain ⟨xa, xf⟩ := x
          obtain ⟨m, hm⟩ : ∃ m : Nat, xa = (m : Int) := ⟨xa.toNat, by have := hlo.at'.1; simp only at this; omega⟩
          subst hm
          have hmt : m < tl.length := by have := hlo.at'.2; simp only at this; omega
          obtain ⟨u, hu⟩ := HTN.out.2 m hmt
          have hgt : tl.getD ((m : Int).toNat) default = u := by rw [Int.toNat_natCast, List.getD_eq_getElem?_getD, hu]; rfl
          have HSTEP := hid' (Dn.stepAll_take (Dn.eyes F day) lab wh tl hx)
          rw [hgt] at HSTEP
          have hwo := hlo.waits
          simp only [hgt] at hwo
          have HNF := hid' (show Dn.NumOk xf from by have h := hlo.num; simp only at h; rw [h]; exact ⟨Num.clamp_ge _, Num.clamp_le _⟩)
          have HUX := hid' (Dn.wop_letter (HTX.out m u hu).1 hwo)
          have HUZ := hid' (HTX.out m u hu).2
          obtain ⟨g', cap', ux, uy, uz, us, e', hgb, hcu, hcells⟩ := HTI.out.cells hu
          cases e'
          have HCU := hid' hcu
          obtain ⟨uo, un, ust, uks⟩ := u
          obtain ⟨up, uc, hue, -⟩ := hcu.open
          simp only [Co.T.op, Co.T.n, Co.T.s, Co.T.ks] at hue
          obtain ⟨rfl, rfl, rfl, rfl⟩ : ux = .int .i64 uo ∧ uy = .int .i64 un ∧ uz = .string ust ∧ us = .slice up uks.length uc := by simpa using hue
          have HTG := hid' (show tg < wr.heap.size from (HTI.out.far rfl).2)
          have k1 : (0 : Int) ≤ (m : Int) := by omega
          have k2 : (m : Int) < (tl.length : Int) := by omega
          have HI := hid' hin
          have HMT := hid' hmt
          have HLEN := hid' (HTL.out i hi)
          clear hx hin hlc hlb hlo hmt hu hgt hwo hgb hue hcu
          have BX := (Below.refl wr.heap.size wr).alloc (Nat.le_refl _) (.cells #[.int .i64 (m : Int), .int .i64 xf] 63)
          have hbx := heap_alloc_new wr (.cells #[.int .i64 (m : Int), .int .i64 xf] 63)
          go_upto_region 15 with (fail)
          have HR9 := hid' (HRI.out.below BX)
          have HT9 := hid' (HTI.out.kept BX)
          have HBX := hid' hbx
          have HCE := hid' (fun W (h : W.heap[tg]? = wr.heap[tg]?) => hcells W h)
          have HG9 := hid' (BX.block tg HTG.out)
          clear BX hbx y0 y1 hcells
          generalize World.alloc wr _ = w9 at *
          generalize wr.heap.size = xb at *
          obtain ⟨u0, u1, u2, u3⟩ := HCE.out w9 HG9.out
          have z0 := bcells HBX.out 0 _ rfl
          have BY := (Below.refl w9.heap.size w9).alloc (Nat.le_refl _) (.cells #[.int .i64 uo, .int .i64 un, .string ust, .slice up uks.length uc] 24)
          have hby := heap_alloc_new w9 (.cells #[.int .i64 uo, .int .i64 un, .string ust, .slice up uks.length uc] 24)
          go_upto_region 16 with (fail)
          have HRX := hid' (HR9.out.below BY)
          have HTX2 := hid' (HT9.out.kept BY)
          have HBX2 := hid' (box_below BY HBX.out)
          have HBY := hid' hby
          clear BY hby u0 u1 u2 u3 z0 HCE HG9 HTG HR9 HT9 HBX
          generalize World.alloc w9 _ = w8 at *
          generalize w9.heap.size = yb at *
          have z0 := bcells HBX2.out 0 _ rfl
          have z1 := bcells HBX2.out 1 _ rfl
          obtain ⟨u0, u1, u2, u3⟩ := heap_cells4 HBY.out
          have q0 := bcells (HPC.out w8 HRX.out.bel) 0 _ rfl
          have q1 := bcells (HPC.out w8 HRX.out.bel) 1 _ rfl
          have hnx : ∀ (r : Dn.R), Dn.stepOne (Dn.eyes F day) lab wh (.mk uo un ust uks) (m : Int) xf = r → ∀ (vl' vo' : Value) (W : World), Runs w0 rb day (.slice fp F.length fc) ((Dn.stepAll (Dn.eyes F day) lab wh tl (l.take i)).1 ++ r.1) ((Dn.stepAll (Dn.eyes F day) lab wh tl (l.take i)).2 ++ r.2) vl' vo' W →
              Runs w0 rb day (.slice fp F.length fc) (Dn.stepAll (Dn.eyes F day) lab wh tl (l.take (i + 1))).1 (Dn.stepAll (Dn.eyes F day) lab wh tl (l.take (i + 1))).2 vl' vo' W := by
            intro r hr vl' vo' W h
            rw [HSTEP.out]
            simp only
            rw [hr]
            exact h
          have HNX := hid' hnx
          clear hnx
          by_cases hsel : uo = 31 ∧ ust = lab ∧ day ≤ un
          · obtain ⟨h31, hlb2, hdy⟩ := hsel
            subst h31
            subst hlb2
            have gl : (ust.toList == ust.toList) = true := beq_self_eq_true _
            have gd : decide (day ≤ un) = true := decide_eq_true hdy
            have hnm := Dn.pick_name HUX.out
            have hwh : wh = 1 ∨ wh = 2 := by
              have h := hPK.out
              unfold pickB at h
              split at h
              · rename_i h2
                rw [h2] at hnm
                rw [name_nil] at hnm
                cases hnm
              · simp only [Bool.and_eq_true, Bool.or_eq_true, beq_iff_eq] at h
                exact h.2
            have hone : Dn.stepOne (Dn.eyes F day) ust wh (.mk 31 un ust uks) (m : Int) xf = Dn.kidA (Dn.eyes F day) uks (wh - 1).toNat (m : Int) xf := by
              unfold Dn.stepOne
              exact if_pos ⟨rfl, rfl, hdy⟩
            obtain ⟨ka, kb, rfl, hka, hkb⟩ : ∃ a b : Co.T, uks = [a, b] ∧ a.letter = 99 ∧ b.letter = 99 := by
              rcases Dn.contract_of HUX.out with (⟨e, -⟩ | ⟨e, -⟩) | ⟨e, -⟩ | ⟨e, -⟩ | ⟨-, a, b, h, ha, hb⟩ | ⟨e, -⟩ | ⟨e, -⟩
              all_goals first | exact ⟨a, b, h, ha, hb⟩ | exact absurd e (by decide) | (exfalso; omega)
            have hzz : (Co.T.mk 31 un ust [ka, kb]).size = 1 + (ka.size + (kb.size + 0)) := by simp [Co.T.size, Co.sizes]
            have HKA := hid' (fun (j : Nat) (k : Co.T) (hk : [ka, kb][j]? = some k) (hkx : k.letter = 99) (hks : k.size ≤ 2000) (W : World) (vl' vo' : Value) (hr : Runs w0 rb day (.slice fp F.length fc) (Dn.stepAll (Dn.eyes F day) ust wh tl (l.take i)).1 (Dn.stepAll (Dn.eyes F day) ust wh tl (l.take i)).2 vl' vo' W) => (show Calls Tryz.prog 19 #[.pointer (some ⟨rb, 0, none⟩), .agg #[.int .i64 31, .int .i64 un, .string ust, .slice up [ka, kb].length uc], .int .i64 (m : Int), .int .i64 (j : Int), .int .i64 xf] W (AcqPost w0 rb day (.slice fp F.length fc) (Dn.stepAll (Dn.eyes F day) ust wh tl (l.take i)).1 (Dn.stepAll (Dn.eyes F day) ust wh tl (l.take i)).2 (Dn.kidA (Dn.eyes F day) [ka, kb] j (m : Int) xf) W) from by
              rw [Dn.kidA_at hk]
              have hm2 := HMT.out
              have hm3 := HTN.out.1
              have h1 := HUZ.out
              have h2 := Dn.take_sizes hk
              have h3 : Co.sizes [ka, kb] ≤ 2000 := by simp only [Co.sizes]; omega
              have hln := HLEN.out
              refine dnkid_any HEN.out ok _ HCU.out (Nat.le_trans h1 (show 2000 ≤ 2000000 by decide)) (m : Int) xf ⟨by omega, by omega⟩ j k hk _ _ _ (fun vk w1 vl vo hvk hr => ?_) W vl' vo' hr
              exact dnacq_any HEN.out k ok vk _ xf _ _ vl vo w1 hvk hkx (Nat.le_trans hks (show 2000 ≤ 2000000 by decide)) (by omega) (by omega) HNF.out (by omega) (by omega) hr))
            have HKS := hid' (show ka.size ≤ 2000 ∧ kb.size ≤ 2000 from by have := HUZ.out; omega)
            clear hnm hdy hzz
            rcases hwh with rfl | rfl
            · have HQ := hid' (HKA.out 0 ka rfl hka HKS.out.1 w8 vl vo HRX.out)
              rw [show ((0 : Nat) : Int) = 0 from rfl] at HQ
              have HQN := hid' (HNX.out _ hone)
              clear hone
              go_wp2_with (first | (go_at_call 19; refine HQ.out.mono ?_; rintro e w6' ⟨⟨x, rfl⟩, ⟨vl6, vo6, hr6⟩, k6⟩; have HP6 := hid' (And.intro hr6 k6); clear hr6 k6))
              go_roundw
              case rel => exact ⟨i + 1, vl6, vo6, by go_num, by have := HI.out; omega, hid' (HQN.out vl6 vo6 _ HP6.out.1), hid' (HTX2.out.kp HP6.out.2)⟩
              case measure => have := HI.out; simp [intOf]; omega
            · have HQ := hid' (HKA.out 1 kb rfl hkb HKS.out.2 w8 vl vo HRX.out)
              rw [show ((1 : Nat) : Int) = 1 from rfl] at HQ
              have HQN := hid' (HNX.out _ hone)
              clear hone
              go_wp2_with (first | (go_at_call 19; refine HQ.out.mono ?_; rintro e w6' ⟨⟨x, rfl⟩, ⟨vl6, vo6, hr6⟩, k6⟩; have HP6 := hid' (And.intro hr6 k6); clear hr6 k6))
              go_roundw
              case rel => exact ⟨i + 1, vl6, vo6, by go_num, by have := HI.out; omega, hid' (HQN.out vl6 vo6 _ HP6.out.1), hid' (HTX2.out.kp HP6.out.2)⟩
              case measure => have := HI.out; simp [intOf]; omega
          · have hone : Dn.stepOne (Dn.eyes F day) lab wh (.mk uo un ust uks) (m : Int) xf = Dn.acq (Dn.eyes F day) (.mk uo un ust uks) (m : Int) xf := by
              unfold Dn.stepOne
              exact if_neg hsel
            have HAQ := hid' (show Calls Tryz.prog 12 #[.pointer (some ⟨rb, 0, none⟩), .agg #[.int .i64 uo, .int .i64 un, .string ust, .slice up uks.length uc], .int .i64 (m : Int), .int .i64 xf] w8 (AcqPost w0 rb day (.slice fp F.length fc) (Dn.stepAll (Dn.eyes F day) lab wh tl (l.take i)).1 (Dn.stepAll (Dn.eyes F day) lab wh tl (l.take i)).2 (Dn.acq (Dn.eyes F day) (.mk uo un ust uks) (m : Int) xf) w8) from by
              have h1 := HUZ.out
              have h2 := HMT.out
              have h3 := HTN.out.1
              have h4 := HLEN.out
              exact dnacq_any HEN.out (.mk uo un ust uks) ok _ (m : Int) xf _ _ vl vo w8 HCU.out HUX.out (Nat.le_trans h1 (show 2000 ≤ 2000000 by decide)) (by omega) (by omega) HNF.out (by omega) (by omega) HRX.out)
            have HQN := hid' (HNX.out _ hone)
            clear hone
            have arm : ∀ (K : Prop), K → K := fun _ h => h
            by_cases h31 : uo = 31
            · subst h31
              by_cases hlb2 : ust = lab
              · subst hlb2
                have gl : (ust.toList == ust.toList) = true := beq_self_eq_true _
                have gd : decide (day ≤ un) = false := decide_eq_false (fun h => hsel ⟨rfl, rfl, h⟩)
                clear hsel
                go_wp2_with (first | (go_at_call 12; refine HAQ.out.mono ?_; rintro e w6' ⟨⟨x, rfl⟩, ⟨vl6, vo6, hr6⟩, k6⟩; have HP6 := hid' (And.intro hr6 k6); clear hr6 k6))
                go_roundw
                case rel => exact ⟨i + 1, vl6, vo6, by go_num, by have := HI.out; omega, hid' (HQN.out vl6 vo6 _ HP6.out.1), hid' (HTX2.out.kp HP6.out.2)⟩
                case measure => have := HI.out; simp [intOf]; omega
              · have gl : (ust.toList == lab.toList) = false := by
                  rw [beq_eq_false_iff_ne]
                  intro e2
                  apply hlb2
                  apply ba_ext
                  rw [ByteArray.toList_eq, ByteArray.toList_eq] at e2
                  exact e2
                clear hsel hlb2
                go_wp2_with (first | (go_at_call 12; refine HAQ.out.mono ?_; rintro e w6' ⟨⟨x, rfl⟩, ⟨vl6, vo6, hr6⟩, k6⟩; have HP6 := hid' (And.intro hr6 k6); clear hr6 k6))
                go_roundw
                case rel => exact ⟨i + 1, vl6, vo6, by go_num, by have := HI.out; omega, hid' (HQN.out vl6 vo6 _ HP6.out.1), hid' (HTX2.out.kp HP6.out.2)⟩
                case measure => have := HI.out; simp [intOf]; omega
            · have g31 : (uo == 31) = false := by rw [beq_eq_false_iff_ne]; exact h31
              clear hsel h31
              go_wp2_with (first | (go_at_call 12; refine HAQ.out.mono ?_; rintro e w6' ⟨⟨x, rfl⟩, ⟨vl6, vo6, hr6⟩, k6⟩; have HP6 := hid' (And.intro hr6 k6); clear hr6 k6))
              go_roundw
              case rel => exact ⟨i + 1, vl6, vo6, by go_num, by have := HI.out; omega, hid' (HQN.out vl6 vo6 _ HP6.out.1), hid' (HTX2.out.kp HP6.out.2)⟩
              case measure => have := HI.out; simp [intOf]; omega
        · obtain rfl : i = l.length := by omega
          have j3 : decide (l.length < l.length) = false := by simp
          have HRZ := hid' (show Runs w0 rb day (.slice fp F.length fc) (Dn.stepAll (Dn.eyes F day) lab wh tl l).1 (Dn.stepAll (Dn.eyes F day) lab wh tl l).2 vl vo wr from by have h := HRI.out; rw [List.take_length] at h; exact h)
          have HFA := hid' (fun W (h : Below wr.heap.size wr W) => And.intro (bcells (box_below h HRZ.out.box) 2 _ rfl) (bcells (box_below h HRZ.out.box) 3 _ rfl))
          clear hin
          go_upto_region 20 with (fail)
          refine wp_region_keep (Below wr.heap.size wr) (by kernel_rfl) (by kernel_rfl) (Below.refl _ _).drew ?_
          repeat (first
            | (refine wpKeep_skip ?_ ?_
               · rfl
               simp only [Act.put, List.setIfInBounds_toArray, List.set_cons_zero, List.set_cons_succ])
            | (apply wpKeep_val
               · rfl
               · (intro w hSw; obtain ⟨c2, c3⟩ := HFA.out w hSw; first | (go_simp; done) | (go_simp; with_reducible rfl))
               simp only [Act.put, List.setIfInBounds_toArray, List.set_cons_zero, List.set_cons_succ]))
          refine wpKeep_nil ?_
          intro w6 hS'
          have HR6 := hid' (HRZ.out.below hS')
          clear hS'
          go_wp2_with fail
          refine bodyPost_ret (results_tmp3 rfl _ _ _) rfl ⟨HB0.out.trans (HR6.out.bel.mono (by rw [HRB.out]; exact HLT.out.1)), ?_⟩
          rw [e.out]
          have hle : w.heap.size ≤ rb + 1 := by rw [HRB.out]; exact Nat.le_succ_of_le HLT.out.1
          exact ⟨_, _, rfl, dn_row_mono HR6.out.ls hle, dn_row_mono HR6.out.ts hle⟩
end Go.Proofs.YtcpobnknmegkmaaGreatDoor
namespace Go.Proofs.YtcpobnknmegkmaaGreatDoor
open Go.RowKit
open Rw
set_option linter.unusedVariables false
set_option linter.unusedSimpArgs false
set_option maxRecDepth 100000
theorem LiveRow.stamps {base : Nat} {W : World} {v : Value} {L : List (Int × Int)} (h : LiveRow base W v L) (hI : ∀ x ∈ L, I64 x.1 ∧ I64 x.2) : StampsAt W v L := by
  obtain ⟨h0, ⟨rfl, hz⟩ | ⟨g, cap, cur, rfl, h2, h3, h4, h5, h6, h7⟩⟩ := id h
  · obtain rfl : L = [] := List.eq_nil_of_length_eq_zero hz
    exact ⟨none, 0, rfl, ⟨Nat.le_refl _, Nat.zero_le _⟩, fun i x hx => by simp at hx⟩
  · obtain ⟨p, c, e, hc⟩ := rowcells_of (f := live2) (fun _ => rfl) h
    cases e
    refine ⟨_, _, rfl, ⟨h4, h5⟩, fun i x hx => ?_⟩
    obtain ⟨g', e', hg, hj⟩ := hc i x hx
    cases e'
    exact ⟨g, 0, rfl, hg, ⟨hj 0 _ (by omega) rfl, hj 1 _ (by omega) rfl⟩, hI x (List.mem_of_getElem? hx)⟩
def eur : ByteArray := ⟨#[69, 85, 82]⟩
def oneT : Co.T := .mk 24 0 ⟨#[69, 85, 82]⟩ []
def shownT : Co.T := .mk 29 10 ⟨#[]⟩ [oneT]
theorem shown_good : shownT.good := (Co.check_good _).1 (by kernel_rfl)
theorem nil_ok : Fd.Ok [] := ⟨by simp, fun i f h => by simp at h⟩
theorem shown_begin : Dn.beginR shownT 5 [] = some ([(0, 1000000)], []) := by
  unfold Dn.beginR
  rw [if_pos ⟨shown_good, by rfl, nil_ok⟩]
  unfold shownT
  rw [Dn.acq_29, if_neg (show ¬ (10 : Int) ≤ (Dn.eyes [] 5).day by show ¬ (10 : Int) ≤ 5; omega)]
  rfl
theorem shown_step : Dn.stepR shownT [(0, 1000000)] 10 [] ⟨#[]⟩ 0 = some ([], [(eur, 1000000)]) := by
  unfold Dn.stepR
  have hp : Dn.pre shownT = [shownT, oneT] := rfl
  have hl : Dn.LivesOk [shownT, oneT] [(0, 1000000)] := by
    intro i x hx
    match i, hx with
    | 0, hx =>
      obtain rfl : (0, 1000000) = x := by simpa using hx
      exact ⟨⟨by decide, by decide⟩, fun j y h => by omega, by rw [Num.clamp_in (by decide) (by decide)], by rfl⟩
    | j + 1, hx => simp at hx
  have h1 : Dn.stepOne (Dn.eyes [] 10) ⟨#[]⟩ 0 shownT 0 1000000 = ([], [(eur, 1000000)]) := by
    unfold Dn.stepOne
    rw [if_neg (fun h => absurd h.1 (by decide))]
    unfold shownT
    rw [Dn.acq_29, if_pos (show (10 : Int) ≤ (Dn.eyes [] 10).day from Int.le_refl _), Dn.kidA_at (k := oneT) rfl]
    unfold oneT
    rw [Dn.acq_24, if_neg (by decide)]
    rfl
  have h2 : Dn.stepAll (Dn.eyes [] 10) ⟨#[]⟩ 0 [shownT, oneT] [(0, 1000000)] = ([], [(eur, 1000000)]) := by
    show Dn.both (Dn.stepOne (Dn.eyes [] 10) ⟨#[]⟩ 0 shownT 0 1000000) Dn.nothing = _
    rw [h1]
    rfl
  rw [hp, if_pos ⟨shown_good, by rfl, nil_ok, by unfold pickB; rw [if_pos rfl]; rfl, hl⟩, h2]
theorem stamps_none (W : World) : FeedsAt W (.slice none 0 0) [] := ⟨none, 0, rfl, ⟨Nat.le_refl _, Nat.zero_le _⟩, fun i x h => by simp at h⟩
set_option maxHeartbeats 4000000 in
theorem shown15_any (w : World) : Calls Tryz.prog 4 #[] w (Gives (.bool true) w) := by
  have z1 : ∀ (W : World) (o : Obj) (k : Nat) (x : Obj), W.heap[k]? = some x → (W.alloc o).heap[k]? = some x := fun W o k x h => (((Below.refl W.heap.size W).alloc (Nat.le_refl _) o).block k (lt_of_block h)).trans h
  have hr := z1 _ (.cells #[.int .i64 29, .int .i64 10, .string ⟨#[]⟩, .slice (some ⟨w.heap.size, 0, none⟩) 1 1] 24) _ _ (heap_alloc_new w (.cells #[.int .i64 24, .int .i64 0, .string ⟨#[69, 85, 82]⟩, .slice none 0 0] 24))
  have hc := heap_alloc_new (w.alloc (.cells #[.int .i64 24, .int .i64 0, .string ⟨#[69, 85, 82]⟩, .slice none 0 0] 24)) (.cells #[.int .i64 29, .int .i64 10, .string ⟨#[]⟩, .slice (some ⟨w.heap.size, 0, none⟩) 1 1] 24)
  have hb := ((Below.refl w.heap.size w).alloc (Nat.le_refl _) (.cells #[.int .i64 24, .int .i64 0, .string ⟨#[69, 85, 82]⟩, .slice none 0 0] 24)).alloc (by simp) (.cells #[.int .i64 29, .int .i64 10, .string ⟨#[]⟩, .slice (some ⟨w.heap.size, 0, none⟩) 1 1] 24)
  rw [World.size_alloc] at hc
  go_enter Tryz.func4, Tryz.ntmps4
  go_upto_region 2 with (fail)
  generalize World.alloc _ _ = w1 at *
  have HB1 := hid' hb
  have HC1 := hid' hc
  have hin : CoreIn (fun _ => True) w1 shownT (.agg #[.int .i64 29, .int .i64 10, .string ⟨#[]⟩, .slice (some ⟨w.heap.size, 0, none⟩) 1 1]) := by
    have i64 : ∀ n : Int, -9223372036854775808 ≤ n ∧ n ≤ 9223372036854775807 → I64 n := fun n h => h
    refine CoreIn.close (ks := [oneT]) ⟨Nat.le_refl 1, by decide⟩ (i64 _ (by omega)) (i64 _ (by omega)) (by decide) (fun i k hk => ?_)
    match i with
    | 0 =>
      obtain rfl : _ = k := by simpa using hk
      obtain ⟨a0, a1, a2, a3⟩ := heap_cells4 hr
      exact ⟨_, ⟨w.heap.size, 0, _, _, _, _, rfl, trivial, rfl, a0, a1, a2, a3⟩, CoreIn.close (ks := []) ⟨Nat.le_refl _, by unfold maxLen; omega⟩ (i64 _ (by omega)) (i64 _ (by omega)) (by decide) (fun i k e => by simp at e)⟩
    | _ + 1 => simp at hk
  have HIN := hid' hin
  clear hin hr hc hb z1
  have HBG := hid' (dnbegin_any shownT 5 [] (fun _ => True) _ (.slice none 0 0) w1 HIN.out (by decide) (stamps_none w1))
  rw [shown_begin] at HBG
  obtain ⟨c0, c1, c2, c3⟩ := heap_cells4 HC1.out
  go_upto_region 3 with (first | (go_at_call 5; refine HBG.out.mono ?_; rintro e w2 ⟨b2, vl, vo, rfl, hl, ho⟩))
  have HB2 := hid' (HB1.out.trans (b2.mono HB1.out.size))
  have HC2 := hid' (box_below b2 HC1.out)
  have HST := hid' (dnstep_any shownT [(0, 1000000)] 10 [] ⟨#[]⟩ 0 (fun _ => True) _ vl (.slice none 0 0) w2 (HIN.out.under b2) (by decide) (hl.stamps (fun x hx => by
    simp only [List.mem_cons, List.not_mem_nil, or_false] at hx
    subst hx
    exact ⟨by unfold I64; omega, by unfold I64; omega⟩)) (stamps_none w2) (by decide))
  rw [shown_step] at HST
  obtain ⟨lp, lc, e1⟩ := row_form hl
  obtain ⟨tp, tc, e2⟩ := row_form ho
  replace e1 : vl = .slice lp 1 lc := e1
  replace e2 : vo = .slice tp 0 tc := e2
  subst e1
  subst e2
  clear hl ho b2 c0 c1 c2 c3
  obtain ⟨c0, c1, c2, c3⟩ := heap_cells4 HC2.out
  go_upto_region 4 with (first | (go_at_call 8; refine HST.out.mono ?_; rintro e w3 ⟨b3, vl3, vo3, rfl, hl3, ho3⟩))
  have HB3 := hid' (HB2.out.trans (b3.mono HB2.out.size))
  obtain ⟨lp3, lc3, e1⟩ := row_form hl3
  replace e1 : vl3 = .slice lp3 0 lc3 := e1
  subst e1
  obtain ⟨op, oc, e1, -, hts⟩ := TranRow.seen ho3 (by simp)
  obtain ⟨tb, to', rfl, -, t0, t1, t2⟩ := hts 0 (eur, 1000000) rfl
  replace e1 : vo3 = .slice (some ⟨tb, to', none⟩) 1 oc := e1
  subst e1
  rw [show eur = ⟨#[69, 85, 82]⟩ from rfl] at t1
  clear hl3 ho3 hts b3 c0 c1 c2 c3
  simp only [Nat.zero_mul, Nat.add_zero] at t0 t1 t2
  go_wp2_with fail
  go_ret
  exact ⟨rfl, HB3.out⟩
end Go.Proofs.YtcpobnknmegkmaaGreatDoor
namespace Go.Proofs.YtcpobnknmegkmaaGreatDoor
open Go.RowKit
open Rw
set_option linter.unusedVariables false
set_option linter.unusedSimpArgs false
set_option maxRecDepth 100000
namespace Dn
open Co
def errOf (o : Option R) : Int := match o with | none => 150 | some _ => 0
theorem scl_of (y : Nat) (h : y ≤ 1000000000000000) : Num.scl 1000000 y 1000000 = y := by
  unfold Num.scl
  have h1 : 1000000 * y / 18446744073709551616 < 1000000 := by omega
  rw [if_pos h1, Nat.mul_div_cancel_left y (by decide), Nat.mul_mod_right]
  unfold Num.up
  rw [if_neg (by omega)]
  omega
theorem sgn_nat (a : Int) : Num.sgn (decide (a < 0)) a.natAbs = a := by
  unfold Num.sgn
  by_cases h : a < 0
  · rw [decide_eq_true h]; simp; omega
  · rw [decide_eq_false h]; simp; omega
theorem mul_once {n : Int} (h : NumOk n) : Num.mul 1000000 n = n := by
  unfold Num.mul
  rw [Num.clamp_in h.1 h.2, show Num.clamp 1000000 = 1000000 from Num.clamp_in (by decide) (by decide), show (1000000 : Int).natAbs = 1000000 from rfl, scl_of _ (by unfold NumOk at h; omega), show decide ((1000000 : Int) < 0) = false by decide, Bool.false_bne]
  exact sgn_nat n
def numT (n : Int) : T := .mk 1 n ⟨#[]⟩ []
def timesT (n : Int) (t : T) : T := .mk 26 0 ⟨#[]⟩ [numT n, t]
theorem num_110 {n : Int} (h : NumOk n) : (numT n).letter = 110 := num_leaf h
theorem one_99 : oneT.letter = 99 := by kernel_rfl
theorem times_99 {n : Int} (h : NumOk n) {t : T} (ht : t.letter = 99) : (timesT n t).letter = 99 := letter_of (by decide) (by rw [want_26]; simp [num_110 h, ht]) (by simp [fields, nil_text])
theorem times_inv {n : Int} {t : T} (h : (timesT n t).letter = 99) : t.letter = 99 := by
  rcases contract_of h with (⟨e, -⟩ | ⟨e, -⟩) | ⟨e, -⟩ | ⟨-, o, k, e, -, hk⟩ | ⟨e, -⟩ | ⟨e, -⟩ | ⟨e, -⟩
  · exact absurd e (by decide)
  · exact absurd e (by decide)
  · exact absurd e (by decide)
  · simp only [List.cons.injEq, and_true] at e
    rw [e.2]; exact hk
  · exact absurd e (by decide)
  · exact absurd e (by decide)
  · exact absurd e (by decide)
theorem times_size (n : Int) (t : T) : (timesT n t).size = 2 + t.size := by unfold timesT numT; simp only [T.size, sizes]; omega
theorem times_depth (n : Int) (t : T) : (timesT n t).depth = 1 + max 1 t.depth := by unfold timesT numT; simp only [T.depth, depths]; have := depth_pos t; omega
theorem times_ahead (n : Int) (t : T) : (timesT n t).ahead = t.ahead := by
  unfold timesT numT T.ahead
  simp only [T.nodes, nodess, List.any_cons, List.any_append, List.any_nil, Bool.or_false, Bool.false_or]
  simp
theorem times_kid {n : Int} {t : T} (h : (timesT n t).good) : t.good := by
  obtain ⟨h1, h2, h3⟩ := h
  refine ⟨?_, times_inv h2, by rw [times_ahead] at h3; exact h3⟩
  rw [small_iff] at h1 ⊢
  rw [times_size, times_depth] at h1
  omega
theorem times_one_good {n : Int} (h : NumOk n) : (timesT n oneT).good := by
  refine ⟨?_, times_99 h one_99, by rw [times_ahead]; rfl⟩
  rw [small_iff, times_size, times_depth, show oneT.size = 1 from rfl, show oneT.depth = 1 from rfl]
  omega
theorem one_ok : NumOk 1000000 := by unfold NumOk; omega
theorem times_acq (E : Eyes) {n : Int} (h : NumOk n) (t : T) : acq E (timesT n t) 0 1000000 = acq E t 2 n := by
  unfold timesT
  rw [acq_26]
  have hv : (values E [numT n, t]).getD 0 none = some n := by
    rw [values_at (k := numT n) rfl]
    unfold numT
    rw [value_eq]
    rfl
  rw [hv]
  show kidA E [numT n, t] 1 0 (Num.mul 1000000 n) = _
  rw [kidA_at (k := t) rfl, mul_once h]
  rfl
theorem begin_one {n : Int} (h : NumOk n) {day : Int} {F : List Fd.Feed} (hd : dayOk day = true) (hF : Fd.Ok F) : beginR (timesT n oneT) day F = some ([], if n = 0 then [] else [(⟨#[69, 85, 82]⟩, n)]) := by
  unfold beginR
  rw [if_pos ⟨times_one_good h, hd, hF⟩, times_acq _ h]
  unfold oneT
  rw [acq_24]
theorem begin_wrong {t : T} {day : Int} {F : List Fd.Feed} (h : ¬ (dayOk day = true ∧ Fd.Ok F)) : beginR t day F = none := by
  unfold beginR
  rw [if_neg (fun hh => h hh.2)]
theorem begin_once {t : T} {day : Int} {F : List Fd.Feed} {r : R} (h : beginR (timesT 1000000 t) day F = some r) : ∃ q, beginR t day F = some q ∧ r = shift 2 q := by
  unfold beginR at h ⊢
  split at h
  · rename_i hg
    have hk := times_kid hg.1
    rw [if_pos ⟨hk, hg.2⟩]
    refine ⟨_, rfl, ?_⟩
    obtain rfl := Option.some.inj h
    rw [times_acq _ one_ok]
    exact acq_shift (eyes_ok hg.2.2 day) 2 t 0 1000000 hk.2.1
  · cases h
end Dn
theorem begin_lives {t : Co.T} {day : Int} {F : List Fd.Feed} {r : Dn.R} (h : Dn.beginR t day F = some r) : Dn.Chain (Dn.Settled (Dn.eyes F day)) t 0 0 r.1 (t.size : Int) ∧ (r.1.length ≤ 2000 ∧ r.2.length ≤ 2000) ∧ t.good ∧ dayOk day = true ∧ Fd.Ok F := by
  unfold Dn.beginR at h
  split at h
  · rename_i hg
    obtain rfl := Option.some.inj h
    have hE := Dn.eyes_ok hg.2.2 day
    have h1 := Dn.acq_chain hE t 0 1000000 hg.1.2.1 Dn.one_ok (Dn.Sits.refl t 0)
    have h2 := Dn.acq_len hE t 0 1000000 hg.1.2.1 Dn.one_ok
    have h3 := ((Co.small_iff t).1 hg.1.1).1
    rw [Int.zero_add] at h1
    exact ⟨h1, ⟨by omega, by omega⟩, hg⟩
  · cases h
theorem live_range {P : Co.T → Int → Int → Prop} {t : Co.T} {l : List (Int × Int)} {hi : Int} (h : Dn.Chain P t 0 0 l hi) {i : Nat} {x : Int × Int} (hx : l[i]? = some x) : (0 ≤ x.1 ∧ x.1 < t.size) ∧ Dn.NumOk x.2 := by
  have h1 := Dn.chain_ok h i x hx
  obtain ⟨u, -, -, -, h4, -⟩ := Dn.chain_at h i x hx
  have h2 := h1.at'
  rw [Dn.pre_len] at h2
  exact ⟨h2, h4⟩
/-- A term over a number and a term, built by a law. -/
theorem times_in {ok : Nat → Prop} {W : World} {k : Nat} {n : Int} {t : Co.T} {x y z u : Value} (hb : W.heap[k]? = some (.cells #[.int .i64 1, .int .i64 n, .string ⟨#[]⟩, .slice none 0 0, x, y, z, u] 24 (0, 0))) (hk : ok k) (hn : I64 n) (ht : CoreIn ok W t (.agg #[x, y, z, u])) :
    CoreIn ok W (Dn.timesT n t) (.agg #[.int .i64 26, .int .i64 0, .string ⟨#[]⟩, .slice (some ⟨k, 0, none⟩) 2 2]) := by
  have cb := fun i v h => bcells hb i v h
  have i64 : ∀ n : Int, -9223372036854775808 ≤ n ∧ n ≤ 9223372036854775807 → I64 n := fun n h => h
  refine CoreIn.close (ks := [Dn.numT n, t]) ⟨Nat.le_refl 2, by decide⟩ (i64 _ (by omega)) (i64 _ (by omega)) (by decide) (fun i k' hk' => ?_)
  match i with
  | 0 =>
    obtain rfl : _ = k' := by simpa using hk'
    exact ⟨_, ⟨k, 0, _, _, _, _, rfl, hk, rfl, cb 0 _ rfl, cb 1 _ rfl, cb 2 _ rfl, cb 3 _ rfl⟩, CoreIn.close (ks := []) ⟨Nat.le_refl _, by unfold maxLen; omega⟩ (i64 _ (by omega)) hn (by decide) (fun i k e => by simp at e)⟩
  | 1 =>
    obtain rfl : _ = k' := by simpa using hk'
    exact ⟨_, ⟨k, 0, _, _, _, _, rfl, hk, rfl, cb 4 _ rfl, cb 5 _ rfl, cb 6 _ rfl, cb 7 _ rfl⟩, ht⟩
  | _ + 2 => simp at hk'
theorem one_in {ok : Nat → Prop} {W : World} : CoreIn ok W oneT (.agg #[.int .i64 24, .int .i64 0, .string ⟨#[69, 85, 82]⟩, .slice none 0 0]) := by
  have i64 : ∀ n : Int, -9223372036854775808 ≤ n ∧ n ≤ 9223372036854775807 → I64 n := fun n h => h
  exact CoreIn.close (ks := []) ⟨Nat.le_refl _, by unfold maxLen; omega⟩ (i64 _ (by omega)) (i64 _ (by omega)) (by decide) (fun i k e => by simp at e)
end Go.Proofs.YtcpobnknmegkmaaGreatDoor
namespace Go.Proofs.YtcpobnknmegkmaaGreatDoor
open Go.RowKit
set_option linter.unusedVariables false
/-- A term that came in by value: its four cells under names. -/
theorem open_term {ok : Nat → Prop} {W : World} {t : Co.T} {v : Value} (h : CoreIn ok W t v) : ∃ op n s p len c, v = .agg #[.int .i64 op, .int .i64 n, .string s, .slice p len c] ∧ (t.op = op ∧ t.n = n ∧ t.s = s ∧ t.ks.length = len) := by
  obtain ⟨p, c, e, -⟩ := h.open
  exact ⟨_, _, _, p, _, c, e, rfl, rfl, rfl, rfl⟩
theorem drop_one {α : Type} {l : List α} {i : Nat} {k : α} (h : l[i]? = some k) : l.drop i = k :: l.drop (i + 1) := by
  obtain ⟨hi, rfl⟩ := List.getElem?_eq_some_iff.1 h
  exact (List.drop_eq_getElem_cons hi)
theorem any_true_of {α : Type} {l : List α} {k : α} {f : α → Bool} (h : k ∈ l) (hf : f k = true) : l.any f = true := List.any_eq_true.2 ⟨k, h, hf⟩
theorem any_take_succ {α : Type} {l : List α} {i : Nat} {k : α} (f : α → Bool) (h : l[i]? = some k) : (l.take (i + 1)).any f = ((l.take i).any f || f k) := by
  rw [take_one h, List.any_append]
  simp
theorem max_i64 {a b : Int} (ha : I64 a) (hb : I64 b) : I64 (max a b) := by
  unfold I64 at *
  omega
set_option maxHeartbeats 4000000 in
theorem refLeft_any (t : Co.T) : ∀ (m d : Int) (ok : Nat → Prop) (v : Value) (w : World), CoreIn ok w t v → t.size ≤ 2000000 → 0 ≤ m → m ≤ 2000 → 0 ≤ d → d ≤ 201 → Calls Tryz.prog 42 #[v, .int .i64 m, .int .i64 d] w (Gives (.int .i64 (t.left m d)) w) := by
  induction t using Co.T.ind with | h op n s ks ih => ?_
  intro m d ok v w hv hsz hm0 hm1 hd0 hd1
  obtain ⟨q, c, rfl, hc, ho, hn, hs, hk⟩ := hv.open
  simp only [Co.T.op, Co.T.n, Co.T.s, Co.T.ks] at hk ⊢
  have HIH := hid' ih
  have HK := hid' hk
  have HN64 := hid' hn
  have HZS := hid' (show Co.sizes ks ≤ 2000000 by rw [Co.T.size] at hsz; omega)
  have HZ := hid' (show ks.length ≤ 2000000 by rw [Co.T.size] at hsz; have := Co.sizes_len ks; omega)
  have HSZ := hid' (fun k (h : k ∈ ks) => show k.size ≤ 2000000 by have := Co.sizes_mem h; rw [Co.T.size] at hsz; omega)
  have HB := hid' ((Below.refl w.heap.size w).alloc (Nat.le_refl _) (.cells #[.int .i64 op, .int .i64 n, .string s, .slice q ks.length c] 24))
  have HC := hid' (heap_alloc_new w (.cells #[.int .i64 op, .int .i64 n, .string s, .slice q ks.length c] 24))
  obtain ⟨R, hR⟩ : ∃ R, Hid ((Co.T.mk op n s ks).left m d = R) := ⟨_, hid' rfl⟩
  rw [hR.out]
  have HE := hid' (show R = if 200 < d then -1 else Co.lefts ks (m - 1) (d + 1) by rw [← hR.out, Co.T.left])
  have hmw : IntKind.i64.wrap (m - 1) = m - 1 := IntWalk.i64_in _ (by omega)
  have hdw : IntKind.i64.wrap (d + 1) = d + 1 := IntWalk.i64_in _ (by omega)
  have HD := hid' hd0
  have HM1 := hid' (show -1 ≤ m - 1 ∧ m - 1 ≤ 2000 by omega)
  clear ih hk hc ho hn hs hsz hv hm0 hm1 hd0 hd1
  go_enter Tryz.func42, Tryz.ntmps42
  go_upto_region 1 with (fail)
  generalize World.alloc _ _ = w1 at *
  obtain ⟨c0, c1, c2, c3⟩ := heap_cells4 HC.out
  by_cases h200 : 200 < d
  · have HN := hid' (show R = -1 by rw [HE.out, if_pos h200])
    have g0 : decide (200 < d) = true := decide_eq_true h200
    clear h200
    go_wp2_with fail
    go_ret
    exact ⟨by rw [HN.out]; rfl, HB.out⟩
  · have HE2 := hid' (show R = Co.lefts ks (m - 1) (d + 1) by rw [HE.out, if_neg h200])
    have g0 : decide (200 < d) = false := decide_eq_false h200
    have HD2 := hid' (show 0 ≤ d + 1 ∧ d + 1 ≤ 201 by have := HD.out; omega)
    clear h200
    go_wp2_with fail
    clear g0
    go_loopw [1, 7] (fun mv iv wr => ∃ (i : Nat) (x : Int), iv = .int .i64 (i : Int) ∧ mv = .int .i64 x ∧ i ≤ ks.length ∧ Hid (Below w1.heap.size w1 wr ∧ R = Co.lefts (ks.drop i) x (d + 1) ∧ -1 ≤ x ∧ x ≤ 2000)) (fun _ iv _ => ks.length - (intOf iv).toNat)
    case atStart => exact ⟨0, m - 1, rfl, rfl, Nat.zero_le _, hid' ⟨Below.refl _ _, HE2.out, HM1.out⟩⟩
    case round =>
      obtain ⟨i, x, rfl, rfl, hi, HJ⟩ := hrel
      have hc1 := (HJ.out.1.block _ (lt_of_block HC.out)).trans HC.out
      obtain ⟨d0, d1, d2, d3⟩ := heap_cells4 hc1
      have HB1 := hid' (HB.out.trans (HJ.out.1.mono HB.out.size))
      clear hc1
      by_cases hik : i < ks.length
      · obtain ⟨k, hkk⟩ : ∃ k, ks[i]? = some k := ⟨_, List.getElem?_eq_getElem hik⟩
        obtain ⟨vk, hrow, hvk⟩ := HK.out i k hkk
        obtain ⟨b, off, x0, y0, z0, u0, e, hlb, hve, r0, r1, r2, r3⟩ := hrow.keep (fun b h hl => ⟨h, HB1.out.block b hl⟩)
        subst e
        have HKV := hid' hvk
        obtain ⟨pk, ck, rfl, -, -, -, -, -⟩ := hvk.open
        obtain ⟨rfl, rfl, rfl, rfl⟩ : .int .i64 k.op = x0 ∧ .int .i64 k.n = y0 ∧ .string k.s = z0 ∧ .slice pk k.ks.length ck = u0 := by simpa using hve
        have g0 : decide ((i : Int) < (ks.length : Int)) = true := by simp; omega
        have j1 : (0 : Int) ≤ (i : Int) := by omega
        have j2 : (i : Int) < (ks.length : Int) := by omega
        have hiw : IntKind.i64.wrap ((i : Int) + 1) = (i : Int) + 1 := IntWalk.i64_in _ (by have := HZ.out; omega)
        have HKK := hid' hkk
        clear hve hrow hvk
        by_cases hx : 0 ≤ x
        · have g1 : decide (0 ≤ x) = true := decide_eq_true hx
          have HNE := hid' (show R = Co.lefts (ks.drop (i + 1)) (k.left x (d + 1)) (d + 1) by rw [HJ.out.2.1, drop_one hkk, Co.lefts, if_pos hx])
          have HSP := hid' (show -1 ≤ k.left x (d + 1) ∧ k.left x (d + 1) ≤ 2000 by
            have h1 := (Co.left_spec k x (d + 1) hx).1
            have h2 := HJ.out.2.2.2
            omega)
          have HX := hid' hx
          clear hx hkk
          go_wp2_with fail
          refine (HIH.out k (List.mem_of_getElem? HKK.out) x (d + 1) ok _ wr (HKV.out.under HB1.out) (HSZ.out k (List.mem_of_getElem? HKK.out)) HX.out HJ.out.2.2.2 HD2.out.1 HD2.out.2).mono ?_
          rintro e w5 ⟨rfl, b5⟩
          have HJ5 := hid' (HJ.out.1.trans (b5.mono HJ.out.1.size))
          clear b5 r0 r1 r2 r3 d0 d1 d2 d3
          have HNX := hid' (show Below w1.heap.size w1 w5 ∧ R = Co.lefts (ks.drop (i + 1)) (k.left x (d + 1)) (d + 1) ∧ -1 ≤ k.left x (d + 1) ∧ k.left x (d + 1) ≤ 2000 from ⟨HJ5.out, HNE.out, HSP.out⟩)
          go_wp2_with fail
          go_roundw
          case rel => exact ⟨i + 1, _, by go_num, rfl, by omega, HNX⟩
          case measure => simp only [intOf]; omega
        · have g1 : decide (0 ≤ x) = false := decide_eq_false hx
          have HY := hid' (show R = x by rw [HJ.out.2.1, Co.lefts_neg _ (by omega)])
          clear hx hkk r0 r1 r2 r3
          go_wp2_with fail
          go_ret
          exact ⟨by rw [HY.out]; rfl, HB1.out⟩
      · obtain rfl : i = ks.length := by omega
        have g0 : decide (ks.length < ks.length) = false := by simp
        have HY := hid' (show R = x by
          rw [HJ.out.2.1, List.drop_eq_nil_of_le (Nat.le_refl _), Co.lefts])
        clear hik
        go_wp2_with fail
        go_ret
        exact ⟨by rw [HY.out]; rfl, HB1.out⟩
theorem refSmall_any (t : Co.T) (ok : Nat → Prop) (v : Value) (w : World) (hv : CoreIn ok w t v) (hsz : t.size ≤ 2000000) : Calls Tryz.prog 27 #[v] w (Gives (.bool (Co.small t)) w) := by
  obtain ⟨op, n, s, q, ln, c, rfl, hop, hn, hs, hln⟩ := open_term hv
  have HV := hid' hv
  have HSZ := hid' hsz
  have HB := hid' ((Below.refl w.heap.size w).alloc (Nat.le_refl _) (.cells #[.int .i64 op, .int .i64 n, .string s, .slice q ln c] 24))
  have HC := hid' (heap_alloc_new w (.cells #[.int .i64 op, .int .i64 n, .string s, .slice q ln c] 24))
  rw [← Co.left_small t]
  clear hop hn hs hln hv hsz
  go_enter Tryz.func27, Tryz.ntmps27
  go_upto_region 1 with (fail)
  generalize World.alloc _ _ = w1 at *
  obtain ⟨c0, c1, c2, c3⟩ := heap_cells4 HC.out
  go_wp2_with fail
  refine (refLeft_any t 2000 1 ok _ w1 (HV.out.under HB.out) HSZ.out (by decide) (by decide) (by decide) (by decide)).mono ?_
  rintro e w2 ⟨rfl, b2⟩
  have HB2 := hid' (HB.out.trans (b2.mono HB.out.size))
  clear b2
  go_wp2_with fail
  go_ret
  exact ⟨rfl, HB2.out⟩
theorem Co.hor_i64 (t : Co.T) : ∀ (ok : Nat → Prop) (v : Value) (w : World), CoreIn ok w t v → I64 t.hor := by
  induction t using Co.T.ind with | h op n s ks ih => ?_
  intro ok v w hv
  obtain ⟨q, c, rfl, hc, ho, hn, hs, hk⟩ := hv.open
  have hl : ∀ (l : List Co.T), (∀ k ∈ l, I64 k.hor) → ∀ m, I64 m → I64 (Co.hors l m) := by
    intro l
    induction l with
    | nil => intro _ m hm; rw [Co.hors]; exact hm
    | cons a r ih2 => intro h m hm; rw [Co.hors]; exact ih2 (fun k hk => h k (List.mem_cons_of_mem _ hk)) _ (max_i64 hm (h a (List.mem_cons_self ..)))
  rw [Co.T.hor]
  refine hl ks (fun k hm => ?_) _ ?_
  · obtain ⟨i, hi⟩ := List.mem_iff_getElem?.1 hm
    obtain ⟨vk, -, hvk⟩ := hk i k hi
    exact ih k hm ok vk w hvk
  · unfold Co.nb
    split
    · exact hn
    · exact ⟨by decide, by decide⟩
set_option maxHeartbeats 4000000 in
theorem refHorizon_any (t : Co.T) : ∀ (ok : Nat → Prop) (v : Value) (w : World), CoreIn ok w t v → t.size ≤ 2000000 → Calls Tryz.prog 14 #[v] w (Gives (.int .i64 t.hor) w) := by
  induction t using Co.T.ind with | h op n s ks ih => ?_
  intro ok v w hv hsz
  obtain ⟨q, c, rfl, hc, ho, hn, hs, hk⟩ := hv.open
  simp only [Co.T.op, Co.T.n, Co.T.s, Co.T.ks] at hk ⊢
  have HIH := hid' ih
  have HK := hid' hk
  have HN64 := hid' hn
  have HZS := hid' (show Co.sizes ks ≤ 2000000 by rw [Co.T.size] at hsz; omega)
  have HZ := hid' (show ks.length ≤ 2000000 by rw [Co.T.size] at hsz; have := Co.sizes_len ks; omega)
  have HSZ := hid' (fun k (h : k ∈ ks) => show k.size ≤ 2000000 by have := Co.sizes_mem h; rw [Co.T.size] at hsz; omega)
  have HB := hid' ((Below.refl w.heap.size w).alloc (Nat.le_refl _) (.cells #[.int .i64 op, .int .i64 n, .string s, .slice q ks.length c] 24))
  have HC := hid' (heap_alloc_new w (.cells #[.int .i64 op, .int .i64 n, .string s, .slice q ks.length c] 24))
  obtain ⟨R, hR⟩ : ∃ R, Hid ((Co.T.mk op n s ks).hor = R) := ⟨_, hid' rfl⟩
  rw [hR.out]
  have HE := hid' (show R = Co.hors ks (Co.nb op n) by rw [← hR.out, Co.T.hor])
  have hnw : IntKind.i64.wrap n = n := IntWalk.i64_in _ (by have h : I64 n := hn; unfold I64 at h; omega)
  clear ih hk hc ho hn hs hsz hv
  go_enter Tryz.func14, Tryz.ntmps14
  go_upto_region 1 with (fail)
  generalize World.alloc _ _ = w1 at *
  obtain ⟨c0, c1, c2, c3⟩ := heap_cells4 HC.out
  by_cases h3 : op = 29 ∨ op = 30 ∨ op = 31
  · have HS := hid' (show R = Co.hors (ks.drop 0) n by rw [HE.out, List.drop_zero, Co.nb, if_pos h3])
    rcases h3 with rfl | rfl | rfl
    all_goals
      go_wp2_with fail
      go_loopw [3, 4] (fun mv iv wr => ∃ (i : Nat) (x : Int), iv = .int .i64 (i : Int) ∧ mv = .int .i64 x ∧ i ≤ ks.length ∧ Hid (Below w1.heap.size w1 wr ∧ R = Co.hors (ks.drop i) x)) (fun _ iv _ => ks.length - (intOf iv).toNat)
      case atStart => exact ⟨0, _, rfl, rfl, Nat.zero_le _, hid' ⟨Below.refl _ _, HS.out⟩⟩
      case round =>
        obtain ⟨i, x, rfl, rfl, hi, HJ⟩ := hrel
        have hc1 := (HJ.out.1.block _ (lt_of_block HC.out)).trans HC.out
        obtain ⟨d0, d1, d2, d3⟩ := heap_cells4 hc1
        have HB1 := hid' (HB.out.trans (HJ.out.1.mono HB.out.size))
        clear hc1
        by_cases hik : i < ks.length
        · obtain ⟨k, hkk⟩ : ∃ k, ks[i]? = some k := ⟨_, List.getElem?_eq_getElem hik⟩
          obtain ⟨vk, hrow, hvk⟩ := HK.out i k hkk
          obtain ⟨b, off, x0, y0, z0, u0, e, hlb, hve, r0, r1, r2, r3⟩ := hrow.keep (fun b h hl => ⟨h, HB1.out.block b hl⟩)
          subst e
          have HKV := hid' hvk
          obtain ⟨pk, ck, rfl, -, -, -, -, -⟩ := hvk.open
          obtain ⟨rfl, rfl, rfl, rfl⟩ : .int .i64 k.op = x0 ∧ .int .i64 k.n = y0 ∧ .string k.s = z0 ∧ .slice pk k.ks.length ck = u0 := by simpa using hve
          have g0 : decide ((i : Int) < (ks.length : Int)) = true := by simp; omega
          have j1 : (0 : Int) ≤ (i : Int) := by omega
          have j2 : (i : Int) < (ks.length : Int) := by omega
          have hiw : IntKind.i64.wrap ((i : Int) + 1) = (i : Int) + 1 := IntWalk.i64_in _ (by have := HZ.out; omega)
          have HKK := hid' hkk
          have HNE := hid' (show R = Co.hors (ks.drop (i + 1)) (max x k.hor) by rw [HJ.out.2, drop_one hkk, Co.hors])
          clear hve hkk hrow hvk
          go_wp2_with fail
          refine (HIH.out k (List.mem_of_getElem? HKK.out) ok _ wr (HKV.out.under HB1.out) (HSZ.out k (List.mem_of_getElem? HKK.out))).mono ?_
          rintro e w5 ⟨rfl, b5⟩
          have HJ5 := hid' (HJ.out.1.trans (b5.mono HJ.out.1.size))
          clear b5 r0 r1 r2 r3 d0 d1 d2 d3
          have HNX := hid' (show Below w1.heap.size w1 w5 ∧ R = Co.hors (ks.drop (i + 1)) (max x k.hor) from ⟨HJ5.out, HNE.out⟩)
          go_wp2_with fail
          go_roundw
          case rel => exact ⟨i + 1, max x k.hor, by go_num, rfl, by omega, HNX⟩
          case measure => simp only [intOf]; omega
        · obtain rfl : i = ks.length := by omega
          have g0 : decide (ks.length < ks.length) = false := by simp
          have HY := hid' (show R = x by
            rw [HJ.out.2, List.drop_eq_nil_of_le (Nat.le_refl _), Co.hors])
          clear hik
          go_wp2_with fail
          go_ret
          exact ⟨by rw [HY.out]; rfl, HB1.out⟩
  · have HS := hid' (show R = Co.hors (ks.drop 0) 0 by rw [HE.out, List.drop_zero, Co.nb, if_neg h3])
    simp only [not_or] at h3
    have g1 : (op == 29) = false := by simpa using h3.1
    have g2 : (op == 30) = false := by simpa using h3.2.1
    have g3 : (op == 31) = false := by simpa using h3.2.2
    clear h3
    go_wp2_with fail
    go_loopw [3, 4] (fun mv iv wr => ∃ (i : Nat) (x : Int), iv = .int .i64 (i : Int) ∧ mv = .int .i64 x ∧ i ≤ ks.length ∧ Hid (Below w1.heap.size w1 wr ∧ R = Co.hors (ks.drop i) x)) (fun _ iv _ => ks.length - (intOf iv).toNat)
    case atStart => exact ⟨0, _, rfl, rfl, Nat.zero_le _, hid' ⟨Below.refl _ _, HS.out⟩⟩
    case round =>
      obtain ⟨i, x, rfl, rfl, hi, HJ⟩ := hrel
      have hc1 := (HJ.out.1.block _ (lt_of_block HC.out)).trans HC.out
      obtain ⟨d0, d1, d2, d3⟩ := heap_cells4 hc1
      have HB1 := hid' (HB.out.trans (HJ.out.1.mono HB.out.size))
      clear hc1
      by_cases hik : i < ks.length
      · obtain ⟨k, hkk⟩ : ∃ k, ks[i]? = some k := ⟨_, List.getElem?_eq_getElem hik⟩
        obtain ⟨vk, hrow, hvk⟩ := HK.out i k hkk
        obtain ⟨b, off, x0, y0, z0, u0, e, hlb, hve, r0, r1, r2, r3⟩ := hrow.keep (fun b h hl => ⟨h, HB1.out.block b hl⟩)
        subst e
        have HKV := hid' hvk
        obtain ⟨pk, ck, rfl, -, -, -, -, -⟩ := hvk.open
        obtain ⟨rfl, rfl, rfl, rfl⟩ : .int .i64 k.op = x0 ∧ .int .i64 k.n = y0 ∧ .string k.s = z0 ∧ .slice pk k.ks.length ck = u0 := by simpa using hve
        have g0 : decide ((i : Int) < (ks.length : Int)) = true := by simp; omega
        have j1 : (0 : Int) ≤ (i : Int) := by omega
        have j2 : (i : Int) < (ks.length : Int) := by omega
        have hiw : IntKind.i64.wrap ((i : Int) + 1) = (i : Int) + 1 := IntWalk.i64_in _ (by have := HZ.out; omega)
        have HKK := hid' hkk
        have HNE := hid' (show R = Co.hors (ks.drop (i + 1)) (max x k.hor) by rw [HJ.out.2, drop_one hkk, Co.hors])
        clear hve hkk hrow hvk
        go_wp2_with fail
        refine (HIH.out k (List.mem_of_getElem? HKK.out) ok _ wr (HKV.out.under HB1.out) (HSZ.out k (List.mem_of_getElem? HKK.out))).mono ?_
        rintro e w5 ⟨rfl, b5⟩
        have HJ5 := hid' (HJ.out.1.trans (b5.mono HJ.out.1.size))
        clear b5 r0 r1 r2 r3 d0 d1 d2 d3
        have HNX := hid' (show Below w1.heap.size w1 w5 ∧ R = Co.hors (ks.drop (i + 1)) (max x k.hor) from ⟨HJ5.out, HNE.out⟩)
        go_wp2_with fail
        go_roundw
        case rel => exact ⟨i + 1, max x k.hor, by go_num, rfl, by omega, HNX⟩
        case measure => simp only [intOf]; omega
      · obtain rfl : i = ks.length := by omega
        have g0 : decide (ks.length < ks.length) = false := by simp
        have HY := hid' (show R = x by
          rw [HJ.out.2, List.drop_eq_nil_of_le (Nat.le_refl _), Co.hors])
        clear hik
        go_wp2_with fail
        go_ret
        exact ⟨by rw [HY.out]; rfl, HB1.out⟩
end Go.Proofs.YtcpobnknmegkmaaGreatDoor
namespace Go.Proofs.YtcpobnknmegkmaaGreatDoor
open Go.RowKit
open Rw
set_option linter.unusedVariables false
set_option linter.unusedSimpArgs false
set_option maxRecDepth 100000
/-- Numbers in a row of the call's own. -/
def IntRow (base : Nat) (w : World) (v : Value) (L : List Int) : Prop := w.ownsRow base 3 1 v L.length (L.map (Value.int .i64))
theorem info_int : (Tryz.prog.info? 3).map (fun i => (i.zero, i.size, i.bytes)) = some (some (.int .i64 0), 1, 8) := by kernel_rfl
theorem append_int {w : World} {ops : Array Oper} {rest : List Oper} {o : Oper} {a : Act} {Q : Exit → Act → World → Prop} (hgd : o.guard = none) (s x : Operand)
    (ho : o.op = .call { callee := .builtin .append, args := #[s, x], argTypes := #[61, 61] })
    (base : Nat) (v : Value) (L : List Int) (hs : a.eval s = v) (hown : IntRow base w v L) (y : Int) (hx : a.eval x = .slice (some ⟨w.heap.size, 0, none⟩) 1 1)
    (hbound : L.length + 1 ≤ 1000000) (hbase : base ≤ w.heap.size)
    (h : ∀ v' w', IntRow base w' v' (L ++ [y]) → w.grownBy w' v.ownBlock → wpList Tryz.prog ops Q rest (a.put o.dst v') w') :
    wpList Tryz.prog ops Q (o :: rest) a (w.alloc (.cells #[.int .i64 y] 3)) := by
  obtain ⟨i, hi, hz, hsz, hby⟩ := info_split info_int
  refine wpList_append_own _ hgd s x 61 ho base 3 i _ 1 8 Tryz.underlying61 hi hz hsz hby rfl (by decide) v L.length _ hs (World.ownsRow.alloc hown _) ⟨w.heap.size, 0, none⟩ 1 1 [.int .i64 y] hx rfl
    (fun j u hj => ?_) (fun u hu => ?_) (by unfold maxLen; omega) (by omega) (by simp; omega) (fun v' w' h1 h2 _ => h v' w' ?_ (grown_trans (grown_of_below ((Below.refl _ _).alloc (Nat.le_refl _) _) _) h2))
  · rw [add_gen, World.cell?_alloc_new, Nat.zero_add, ← hj]
    simp
  · simp only [List.mem_cons, List.not_mem_nil, or_false] at hu
    rcases hu with rfl
    rfl
  · show World.ownsRow w' base _ 1 v' (L ++ [y]).length ((L ++ [y]).map (Value.int .i64))
    rw [List.length_append, List.map_append]
    simpa using h1
theorem IntRow.nil (base : Nat) (W : World) : IntRow base W (.slice none 0 0) [] := ⟨by simp, .inl ⟨rfl, rfl⟩⟩
theorem IntRow.ints {base : Nat} {W : World} {v : Value} {L : List Int} (h : IntRow base W v L) : IntsAt W v L := by
  have h' := h
  obtain ⟨h0, ⟨rfl, hz⟩ | ⟨g, cap, cur, rfl, hrest⟩⟩ := h
  · obtain rfl : L = [] := List.eq_nil_of_length_eq_zero hz
    exact IntsAt.nil W
  · refine ⟨_, _, rfl, fun i x hi => ⟨g, 0, rfl, ?_⟩⟩
    rw [Nat.zero_add, World.ownsRow.cellAt h' i (by have := (List.getElem?_eq_some_iff.1 hi).1; omega), List.getElem?_map, hi]
    rfl
theorem IntRow.below {base : Nat} {W W' : World} {v : Value} {L : List Int} (h : IntRow base W v L) (hb : Below W.heap.size W W') : IntRow base W' v L := by
  obtain ⟨h1, h2⟩ := h
  exact ⟨h1, h2.imp id fun ⟨g, cap, cur, hv, hg, hh, r⟩ => ⟨g, cap, cur, hv, hg, (hb.block g (lt_of_block hh)).trans hh, r⟩⟩
/-- What the reference tells of a term's type. -/
def TypedPost (L : UInt8) (w : World) (e : Ending) (w' : World) : Prop := ∃ x : Int, e = .returned (.tuple #[.int .i64 x, .bool (L != 0)]) ∧ (L ≠ 0 → x = Co.code L) ∧ Below w.heap.size w w'
theorem below_own {base : Nat} {A W W' : World} {r : Option Nat} (h : Below base A W) (g : W.grownBy W' r) (hr : ∀ k, k < base → some k ≠ r) (hs : base ≤ W.heap.size) : Below base A W' :=
  h.trans ⟨g.os, g.tape, g.output, g.size, fun k hk => g.block k (Nat.lt_of_lt_of_le hk hs) (hr k hk)⟩
set_option maxHeartbeats 8000000 in
theorem refTyped_any (t : Co.T) : ∀ (d : Int) (ok : Nat → Prop) (v : Value) (w : World), CoreIn ok w t v → t.size ≤ 2000000 → 0 ≤ d → d + t.depth ≤ 201 → Calls Tryz.prog 28 #[v, .int .i64 d] w (TypedPost t.letter w) := by
  induction t using Co.T.ind with | h op n s ks ih => ?_
  intro d ok v w hv hsz hd0 hdt
  obtain ⟨q, c, rfl, hc, ho, hn, hs, hk⟩ := hv.open
  simp only [Co.T.op, Co.T.n, Co.T.s, Co.T.ks] at hk ⊢
  have HIH := hid' ih
  have HK := hid' hk
  have HSS := hid' (show s.size ≤ 9223372036854775807 from Nat.le_trans hs (by decide))
  have HSZ := hid' (fun k (h : k ∈ ks) => show k.size ≤ 2000000 by have := Co.sizes_mem h; rw [Co.T.size] at hsz; omega)
  have HDD := hid' (fun k (h : k ∈ ks) => show (d + 1) + k.depth ≤ 201 by have := Co.depths_mem h; rw [Co.T.depth] at hdt; omega)
  have HD := hid' (show 0 ≤ d ∧ d ≤ 200 by have := Co.depth_pos (.mk op n s ks); omega)
  have hdw : IntKind.i64.wrap (d + 1) = d + 1 := IntWalk.i64_in _ (by have := HD.out; omega)
  have g200 : decide (200 < d) = false := decide_eq_false (by have := HD.out; omega)
  have HB := hid' ((Below.refl w.heap.size w).alloc (Nat.le_refl _) (.cells #[.int .i64 op, .int .i64 n, .string s, .slice q ks.length c] 24))
  have HC := hid' (heap_alloc_new w (.cells #[.int .i64 op, .int .i64 n, .string s, .slice q ks.length c] 24))
  clear ih hk hc ho hn hs hsz hv hd0 hdt
  obtain ⟨L, hL⟩ : ∃ L, Hid ((Co.T.mk op n s ks).letter = L) := ⟨_, hid' rfl⟩
  rw [hL.out]
  go_enter Tryz.func28, Tryz.ntmps28
  go_upto_region 1 with (fail)
  generalize World.alloc _ _ = w1 at *
  obtain ⟨c0, c1, c2, c3⟩ := heap_cells4 HC.out
  go_wp2_with fail
  refine (refFields_any op n s _ _ _ w1 HSS.out).mono ?_
  rintro e w2 ⟨rfl, b2⟩
  have HB2 := hid' (HB.out.trans (b2.mono HB.out.size))
  have HC2 := hid' ((b2.block _ (lt_of_block HC.out)).trans HC.out)
  clear b2 c0 c1 c2 c3
  obtain ⟨c0, c1, c2, c3⟩ := heap_cells4 HC2.out
  cases hf : Co.fields op n s with
  | false =>
    have HN := hid' (show L = 0 by
      rw [← hL.out]
      by_cases h : (Co.T.mk op n s ks).letter = 0
      · exact h
      · rw [Co.fields_of h] at hf; cases hf)
    go_wp2_with fail
    refine bodyPost_ret (results_tmp2 rfl _ _ _) rfl ?_
    exact ⟨0, by rw [HN.out]; rfl, fun h => absurd HN.out h, HB2.out⟩
  | true =>
    have HF := hid' hf
    clear hf
    by_cases h3 : 3 < ks.length
    · have HN := hid' (show L = 0 by
        rw [← hL.out]
        by_cases h : (Co.T.mk op n s ks).letter = 0
        · exact h
        · have := Co.kids_few h; omega)
      have g3 : decide ((3 : Int) < (ks.length : Int)) = true := by simp; omega
      clear h3
      go_wp2_with fail
      refine bodyPost_ret (results_tmp2 rfl _ _ _) rfl ?_
      exact ⟨0, by rw [HN.out]; rfl, fun h => absurd HN.out h, HB2.out⟩
    · have H3 := hid' (show ks.length ≤ 3 by omega)
      have g3 : decide ((3 : Int) < (ks.length : Int)) = false := by simp; omega
      clear h3
      go_wp2_with fail
      clear g3 g200
      go_loopw [7, 8] (fun lv iv wr => ∃ (i : Nat), iv = .int .i64 (i : Int) ∧ i ≤ ks.length ∧ Hid (Below w.heap.size w wr ∧ wr.heap[w.heap.size]? = some (.cells #[.int .i64 op, .int .i64 n, .string s, .slice q ks.length c] 24 (0, 0)) ∧ IntRow (w.heap.size + 1) wr lv (Co.codes (ks.take i)) ∧ ∀ k ∈ ks.take i, k.letter ≠ 0)) (fun _ iv _ => ks.length - (intOf iv).toNat)
      case atStart => exact ⟨0, rfl, Nat.zero_le _, hid' ⟨HB2.out, HC2.out, IntRow.nil _ _, fun k h => by cases h⟩⟩
      case round =>
        obtain ⟨i, rfl, hi, HJ⟩ := hrel
        obtain ⟨d0, d1, d2, d3⟩ := heap_cells4 HJ.out.2.1
        by_cases hik : i < ks.length
        · obtain ⟨k, hkk⟩ : ∃ k, ks[i]? = some k := ⟨_, List.getElem?_eq_getElem hik⟩
          obtain ⟨vk, hrow, hvk⟩ := HK.out i k hkk
          obtain ⟨b, off, x0, y0, z0, u0, e, hlb, hve, r0, r1, r2, r3⟩ := hrow.keep (fun b h hl => ⟨h, HJ.out.1.block b hl⟩)
          subst e
          have HKV := hid' hvk
          obtain ⟨pk, ck, rfl, -, -, -, -, -⟩ := hvk.open
          obtain ⟨rfl, rfl, rfl, rfl⟩ : .int .i64 k.op = x0 ∧ .int .i64 k.n = y0 ∧ .string k.s = z0 ∧ .slice pk k.ks.length ck = u0 := by simpa using hve
          have g0 : decide ((i : Int) < (ks.length : Int)) = true := by simp; omega
          have j1 : (0 : Int) ≤ (i : Int) := by omega
          have j2 : (i : Int) < (ks.length : Int) := by omega
          have hiw : IntKind.i64.wrap ((i : Int) + 1) = (i : Int) + 1 := IntWalk.i64_in _ (by have := H3.out; omega)
          have HKK := hid' hkk
          clear hve hkk hrow hvk
          go_wp2_with fail
          refine (HIH.out k (List.mem_of_getElem? HKK.out) (d + 1) ok _ wr (HKV.out.under HJ.out.1) (HSZ.out k (List.mem_of_getElem? HKK.out)) (by have := HD.out; omega) (HDD.out k (List.mem_of_getElem? HKK.out))).mono ?_
          rintro e w5 ⟨x, rfl, hx, b5⟩
          have HJ5 := hid' (show Below w.heap.size w w5 ∧ w5.heap[w.heap.size]? = some (.cells #[.int .i64 op, .int .i64 n, .string s, .slice (some ⟨b, off, none⟩) ks.length c] 24 (0, 0)) from ⟨HJ.out.1.trans (b5.mono HJ.out.1.size), (b5.block _ (lt_of_block HJ.out.2.1)).trans HJ.out.2.1⟩)
          have HR5 := hid' (HJ.out.2.2.1.below b5)
          have HL5 := hid' HJ.out.2.2.2
          clear b5 r0 r1 r2 r3 d0 d1 d2 d3
          obtain ⟨g, hg⟩ : ∃ g, Hid ((k.letter != 0) = g) := ⟨_, hid' rfl⟩
          rw [hg.out]
          cases g with
          | false =>
            have HN := hid' (show L = 0 by
              rw [← hL.out]
              by_cases h : (Co.T.mk op n s ks).letter = 0
              · exact h
              · have h1 := Co.kids_ne h k (List.mem_of_getElem? HKK.out)
                have h2 := hg.out
                rw [bne_eq_false_iff_eq] at h2
                exact absurd h2 h1)
            go_wp2_with fail
            refine bodyPost_ret (results_tmp2 rfl _ _ _) rfl ?_
            exact ⟨0, by rw [HN.out]; rfl, fun h => absurd HN.out h, HJ5.out.1⟩
          | true =>
            have HKN := hid' (show k.letter ≠ 0 by have h2 := hg.out; rwa [bne_iff_ne] at h2)
            obtain rfl := hx HKN.out
            clear hx
            go_wp2_with (refine append_int rfl _ _ rfl (w.heap.size + 1) _ _ rfl HR5.out _ rfl (by rw [Co.codes_length, List.length_take]; have := H3.out; omega) (lt_of_block HJ5.out.2) (fun v' w' h1 h2 => ?_); refine halt' ?_)
            refine hid' ?_
            have HNX := hid' (show Below w.heap.size w w' ∧ w'.heap[w.heap.size]? = some (.cells #[.int .i64 op, .int .i64 n, .string s, .slice (some ⟨b, off, none⟩) ks.length c] 24 (0, 0)) ∧ IntRow (w.heap.size + 1) w' v' (Co.codes (ks.take (i + 1))) ∧ ∀ k ∈ ks.take (i + 1), k.letter ≠ 0 by
              refine ⟨below_own HJ5.out.1 h2 (fun k hk => (own_lt HR5.out (by omega)).symm) HJ5.out.1.size, ?_, by rw [Co.codes_take_one HKK.out]; exact h1, fun k' hk' => ?_⟩
              · exact (h2.block _ (lt_of_block HJ5.out.2) (own_lt HR5.out (by omega)).symm).trans HJ5.out.2
              · rw [take_one HKK.out] at hk'
                rcases List.mem_append.1 hk' with h | h
                · exact HL5.out k' h
                · rw [List.mem_singleton.1 h]; exact HKN.out)
            clear h1 h2 HR5 HL5 HJ5
            go_wp2_with fail
            go_roundw
            case rel => exact ⟨i + 1, by go_num, by omega, HNX⟩
            case measure => simp only [intOf]; omega
        · obtain rfl : i = ks.length := by omega
          have g0 : decide (ks.length < ks.length) = false := by simp
          obtain ⟨lv, hlv⟩ : ∃ lv, lv = u7 := ⟨_, rfl⟩
          have HI := hid' (show IntsAt wr u7 (Co.codes ks) by have h := HJ.out.2.2.1.ints; rwa [List.take_length] at h)
          have HL := hid' (show ∀ k ∈ ks, k.letter ≠ 0 by have h := HJ.out.2.2.2; rwa [List.take_length] at h)
          have HBW := hid' HJ.out.1
          have HN3 := hid' (show (Co.codes ks).length ≤ 3 by rw [Co.codes_length]; exact H3.out)
          clear hik HJ
          by_cases h22 : op = 22
          · subst h22
            have HCK := hid' (Co.letter_ck HF.out HL.out)
            rw [hL.out] at HCK
            obtain ⟨l, hl⟩ : ∃ l, Hid (Co.codes ks = l) := ⟨_, hid' rfl⟩
            rw [hl.out] at HI HN3 HCK
            match l, HN3, HCK, HI, hl with
            | [], HN3, HCK, HI, hl =>
              obtain ⟨p, cc, rfl, -⟩ := HI.out
              have HLS := hid' (fun (m : Nat) => refLast_nil p cc (wr.drewN m))
              clear HIH HK HSZ HDD
              have HV := hid' (show (L != 0) = false by rw [HCK.out.1]; rfl)
              go_upto_region 13 with (fail)
              go_quiet ((go_at_call 44; exact Calls.quiet_of_same (HLS.out _)))
              go_wp2_with fail
              refine bodyPost_ret (results_tmp2 rfl _ _ _) rfl ?_
              exact ⟨0, by rw [HV.out]; rfl, fun h => absurd (by simpa using HV.out) h, Below.drewn HBW.out _⟩
            | [x], HN3, HCK, HI, hl =>
              obtain ⟨p, cc, rfl, -⟩ := HI.out
              have HLS := hid' (fun (m : Nat) => refLast_any _ [] x (wr.drewN m) (HI.out.kept (Below.drewn (Below.refl _ _) m)) (by simp))
              clear HIH HK HSZ HDD
              have HV := hid' (show (L != 0) = false by rw [HCK.out.1]; rfl)
              go_upto_region 13 with (fail)
              go_quiet ((go_at_call 44; exact Calls.quiet_of_same (HLS.out _)))
              go_wp2_with fail
              refine bodyPost_ret (results_tmp2 rfl _ _ _) rfl ?_
              exact ⟨x, by rw [HV.out]; rfl, fun h => absurd (by simpa using HV.out) h, Below.drewn HBW.out _⟩
            | [x, y], HN3, HCK, HI, hl =>
              obtain ⟨p, cc, rfl, -⟩ := HI.out
              have HLS := hid' (fun (m : Nat) => refLast_any _ [x] y (wr.drewN m) (HI.out.kept (Below.drewn (Below.refl _ _) m)) (by simp))
              clear HIH HK HSZ HDD
              have HV := hid' (show (L != 0) = false by rw [HCK.out.1]; rfl)
              go_upto_region 13 with (fail)
              go_quiet ((go_at_call 44; exact Calls.quiet_of_same (HLS.out _)))
              go_wp2_with fail
              refine bodyPost_ret (results_tmp2 rfl _ _ _) rfl ?_
              exact ⟨y, by rw [HV.out]; rfl, fun h => absurd (by simpa using HV.out) h, Below.drewn HBW.out _⟩
            | [x, y, z], HN3, HCK, HI, hl =>
              obtain ⟨p, cc, rfl, hcell⟩ := HI.out
              obtain ⟨b, off, rfl, e0⟩ := hcell 0 x rfl
              obtain ⟨b1, off1, h1, e1⟩ := hcell 1 y rfl
              obtain ⟨b2, off2, h2, e2⟩ := hcell 2 z rfl
              cases h1
              cases h2
              have HLS := hid' (fun (m : Nat) => refLast_any _ [x, y] z (wr.drewN m) (HI.out.kept (Below.drewn (Below.refl _ _) m)) (by simp))
              have HZ := hid' (show L ≠ 0 → z = Co.code L by
                intro h
                obtain ⟨a, b, c, rfl, e⟩ := HCK.out.2 h
                have := hl.out
                simp [Co.codes] at this
                rw [← e]
                exact this.2.2.symm)
              rw [Nat.add_zero] at e0
              clear hcell HIH HK HSZ HDD
              by_cases hx : x = 1
              · subst hx
                by_cases hyz : y = z
                · subst hyz
                  by_cases hy4 : y = 4
                  · subst hy4
                    have HV := hid' (show (L != 0) = false by rw [HCK.out.1]; rfl)
                    go_upto_region 13 with (fail)
                    go_quiet ((go_at_call 44; exact Calls.quiet_of_same (HLS.out _)))
                    go_wp2_with fail
                    refine bodyPost_ret (results_tmp2 rfl _ _ _) rfl ?_
                    exact ⟨4, by rw [HV.out]; rfl, fun h => absurd (by simpa using HV.out) h, Below.drewn HBW.out _⟩
                  · have g4 : (y == 4) = false := by simpa using hy4
                    have HH := hid' hy4
                    clear hy4
                    have HV := hid' (show (L != 0) = (y != 4) by rw [HCK.out.1]; simp [Co.ck])
                    go_upto_region 13 with (fail)
                    go_quiet ((go_at_call 44; exact Calls.quiet_of_same (HLS.out _)))
                    go_wp2_with fail
                    refine bodyPost_ret (results_tmp2 rfl _ _ _) rfl ?_
                    exact ⟨y, by rw [HV.out]; rfl, HZ.out, Below.drewn HBW.out _⟩
                · have g4 : (y == z) = false := by simpa using hyz
                  have HH := hid' hyz
                  clear hyz
                  have HV := hid' (show (L != 0) = false by rw [HCK.out.1]; simp [Co.ck, HH.out])
                  go_upto_region 13 with (fail)
                  go_quiet ((go_at_call 44; exact Calls.quiet_of_same (HLS.out _)))
                  go_wp2_with fail
                  refine bodyPost_ret (results_tmp2 rfl _ _ _) rfl ?_
                  exact ⟨z, by rw [HV.out]; rfl, HZ.out, Below.drewn HBW.out _⟩
              · have g4 : (x == 1) = false := by simpa using hx
                have HH := hid' hx
                clear hx
                have HV := hid' (show (L != 0) = false by rw [HCK.out.1]; simp [Co.ck, HH.out])
                go_upto_region 13 with (fail)
                go_quiet ((go_at_call 44; exact Calls.quiet_of_same (HLS.out _)))
                go_wp2_with fail
                refine bodyPost_ret (results_tmp2 rfl _ _ _) rfl ?_
                exact ⟨z, by rw [HV.out]; rfl, HZ.out, Below.drewn HBW.out _⟩
            | _ :: _ :: _ :: _ :: _, HN3, HCK, HI, hl => exact absurd HN3.out (by simp)
          · have HRK := hid' (Co.letter_rk h22 HF.out HL.out)
            rw [hL.out] at HRK
            have g22 : (op == 22) = false := by simpa using h22
            have HKS := hid' (refKids_any op wr)
            clear HIH HK HSZ HDD h22
            obtain ⟨⟨kl, ty, is⟩, hX⟩ : ∃ X, Hid (Co.rk op = X) := ⟨_, hid' rfl⟩
            rw [hX.out] at HRK HKS
            obtain ⟨l, hl⟩ : ∃ l, Hid (Co.codes ks = l) := ⟨_, hid' rfl⟩
            rw [hl.out] at HI HN3 HRK
            obtain ⟨p, cc, rfl, -⟩ := HI.out
            go_wp2_with fail
            refine HKS.out.mono ?_
            rintro e w6 ⟨kv, rfl, b6, hk6⟩
            have HB6 := hid' (HBW.out.trans (b6.mono HBW.out.size))
            have HI6 := hid' (HI.out.kept b6)
            have HK6 := hid' hk6
            obtain ⟨p6, c6, rfl, -⟩ := hk6
            clear b6
            cases is with
            | false =>
              have HV := hid' (show (L != 0) = false by rw [HRK.out.1]; rfl)
              go_wp2_with fail
              refine bodyPost_ret (results_tmp2 rfl _ _ _) rfl ?_
              exact ⟨0, by rw [HV.out]; rfl, fun h => absurd (by simpa using HV.out) h, HB6.out⟩
            | true =>
              by_cases hlen : kl.length = l.length
              · have gl : ((kl.length : Int) != (l.length : Int)) = false := by simp [hlen]
                have HLEN := hid' hlen
                clear hlen
                go_wp2_with fail
                clear gl
                go_loopw [14] (fun iv wx => ∃ (i : Nat), iv = .int .i64 (i : Int) ∧ i ≤ l.length ∧ Hid (Below w6.heap.size w6 wx ∧ l.take i = kl.take i)) (fun iv _ => l.length - (intOf iv).toNat)
                case atStart => exact ⟨0, rfl, Nat.zero_le _, hid' ⟨Below.refl _ _, rfl⟩⟩
                case round =>
                  rename_i wx _ _
                  obtain ⟨i, rfl, hi, HJ⟩ := hrel
                  have HBX := hid' (HB6.out.trans (HJ.out.1.mono HB6.out.size))
                  by_cases hik : i < l.length
                  · obtain ⟨x, hx⟩ : ∃ x, l[i]? = some x := ⟨_, List.getElem?_eq_getElem hik⟩
                    obtain ⟨y, hy⟩ : ∃ y, kl[i]? = some y := ⟨_, List.getElem?_eq_getElem (by have := HLEN.out; omega)⟩
                    obtain ⟨p1, c1', e1, hc1⟩ := HI6.out.kept HJ.out.1
                    obtain ⟨p2, c2', e2, hc2⟩ := HK6.out.kept HJ.out.1
                    cases e1
                    cases e2
                    obtain ⟨ba, oa, rfl, a1⟩ := hc1 i x hx
                    obtain ⟨bb, ob, rfl, a2⟩ := hc2 i y hy
                    have g0 : decide ((i : Int) < (l.length : Int)) = true := by simp; omega
                    have j1 : (0 : Int) ≤ (i : Int) := by omega
                    have j2 : (i : Int) < (l.length : Int) := by omega
                    have j3 : (i : Int) < (kl.length : Int) := by have := HLEN.out; omega
                    have hiw : IntKind.i64.wrap ((i : Int) + 1) = (i : Int) + 1 := IntWalk.i64_in _ (by have := HN3.out; omega)
                    have HXY := hid' (show l.take (i + 1) = l.take i ++ [x] ∧ kl.take (i + 1) = kl.take i ++ [y] from ⟨take_one hx, take_one hy⟩)
                    clear hx hy hc1 hc2
                    by_cases hxy : x = y
                    · subst hxy
                      have HTK := hid' (show l.take (i + 1) = kl.take (i + 1) by rw [HXY.out.1, HXY.out.2, HJ.out.2])
                      go_wp2_with fail
                      go_quiet (fail)
                      go_wp2_with fail
                      go_roundw
                      case rel => exact ⟨i + 1, by go_num, by omega, hid' ⟨Below.drewn HJ.out.1 _, HTK.out⟩⟩
                      case measure => simp only [intOf]; omega
                    · have gx : (x != y) = true := by simpa using hxy
                      have HV := hid' (show (L != 0) = false by
                        rw [HRK.out.1, decide_eq_false (fun e : l = kl => hxy ?_)]
                        · rfl
                        · subst e
                          have h := HXY.out.1.symm.trans HXY.out.2
                          simpa using h)
                      clear hxy
                      go_wp2_with fail
                      go_quiet (fail)
                      go_wp2_with fail
                      refine bodyPost_ret (results_tmp2 rfl _ _ _) rfl ?_
                      exact ⟨0, by rw [HV.out]; rfl, fun h => absurd (by simpa using HV.out) h, Below.drewn HBX.out _⟩
                  · obtain rfl : i = l.length := by omega
                    have g0 : decide (l.length < l.length) = false := by simp
                    have HEQ := hid' (show l = kl by
                      have h := HJ.out.2
                      rw [List.take_length, ← HLEN.out, List.take_length] at h
                      exact h)
                    have HV := hid' (show (L != 0) = true by
                      rw [HRK.out.1, decide_eq_true HEQ.out]
                      rfl)
                    clear hik
                    go_wp2_with fail
                    refine bodyPost_ret (results_tmp2 rfl _ _ _) rfl ?_
                    exact ⟨ty, by rw [HV.out]; rfl, HRK.out.2, HBX.out⟩
              · have gl : ((kl.length : Int) != (l.length : Int)) = true := by simp; omega
                have HV := hid' (show (L != 0) = false by
                  rw [HRK.out.1, decide_eq_false (fun e : l = kl => hlen (by rw [e]))]
                  rfl)
                clear hlen
                go_wp2_with fail
                refine bodyPost_ret (results_tmp2 rfl _ _ _) rfl ?_
                exact ⟨0, by rw [HV.out]; rfl, fun h => absurd (by simpa using HV.out) h, HB6.out⟩
end Go.Proofs.YtcpobnknmegkmaaGreatDoor
