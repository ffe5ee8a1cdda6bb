/- Proved: ledger.Held at a ledger: its iterator hands out every account, in order, with its balance; held, Total. -/
import Derived.Test.YtmmbhmlhenpgbaaDoorLedSorted
import Derived.Test.YtmmbhmlhenpgbaaDoorAnyHead
namespace Go.Proofs.YtmmbhmlhenpgbaaDoor
open Go.RowKit Go.Shelf Go.Maps
open Led
set_option linter.unusedVariables false
set_option linter.unusedSimpArgs false
set_option maxRecDepth 100000
attribute [local go_sem] Oper.semAt_some

noncomputable def legOf (M : DataW Unit) (x : Acc) : Led.Leg := ⟨x.p, x.c, balOf M x.p x.c⟩
def legEnc (x : Led.Leg) : Array Value := #[.agg #[.string x.party, .string x.cur, .int .i64 x.amount]]
/-- What a round of a range over Held keeps. -/
def KpH (n₀ : Nat) (W W' : World) : Prop := Below n₀ W W' ∧ ∀ (k : Nat) (cur : Array Value) (t : TypeId), (t = 75 ∨ t = 36) → W.heap[k]? = some (.cells cur t (0, 0)) → W'.heap[k]? = W.heap[k]?
theorem KpH.trans {n₀ : Nat} {A B C : World} (h : KpH n₀ A B) (k : KpH n₀ B C) : KpH n₀ A C :=
  ⟨h.1.trans k.1, fun j cur t ht hj => (k.2 j cur t ht ((h.2 j cur t ht hj).trans hj)).trans (h.2 j cur t ht hj)⟩
theorem kpH_b {n₀ : Nat} {w : World} (hn : n₀ ≤ w.heap.size) (W : World) (l : Nat) (o o' : Obj) (hl : w.heap.size ≤ l) (h : W.heap[l]? = some o) (ho : o.isCells = false) (hw : o.isWalk = false) : KpH n₀ W (W.putObj l o') :=
  ⟨belowK_b hn W l o o' hl h ho hw, fun k cur t _ hk => World.putObj_heap_other (by rintro rfl; rw [hk] at h; cases h; cases ho)⟩
/-- Between two rounds of Held's loop. -/
structure HeldAt (J : List Led.Leg → World → Prop) (lb mb nn Bm n1 : Nat) (pv v : Value) (M : DataW Unit) (ks : List Acc) (k : Nat) (W : World) : Prop where
  J : J ((ks.take k).map (legOf M)) W
  box : W.heap[Bm]? = some (.cells #[.pointer (some ⟨lb, 0, none⟩)] 36 (0, 0))
  led : W.heap[lb]? = some (.cells #[pv, .map (some mb)] 71 (0, 0))
  map : accM W mb nn M
  row : W.ownsRow n1 75 2 v ks.length (accCells ks)
theorem accCells_two (l : List Acc) : ∀ (i : Nat) (x : Acc), l[i]? = some x → (accCells l)[i * 2]? = some (.string x.p) ∧ (accCells l)[i * 2 + 1]? = some (.string x.c) := by
  induction l with
  | nil => intro i x h; simp at h
  | cons y t ih =>
    intro i x h
    cases i with
    | zero => simp at h; subst h; exact ⟨rfl, rfl⟩
    | succ i =>
      have := ih i x (by simpa using h)
      rw [show (i + 1) * 2 = i * 2 + 2 by omega]
      exact this
theorem HeldAt.at {J : List Led.Leg → World → Prop} {lb mb nn Bm n1 : Nat} {pv v : Value} {M : DataW Unit} {ks : List Acc} {k : Nat} {W : World} (h : HeldAt J lb mb nn Bm n1 pv v M ks k W) {x : Acc} (hx : ks[k]? = some x) :
    ∃ g cap, v = .slice (some ⟨g, 0, none⟩) ks.length cap ∧ W.cell? ⟨g, k * 2, none⟩ = some (.string x.p) ∧ W.cell? ⟨g, k * 2 + 1, none⟩ = some (.string x.c) := by
  have hk : k < ks.length := (List.getElem?_eq_some_iff.1 hx).1
  obtain ⟨h0, ⟨_, hz⟩ | ⟨g, cap, cur, rfl, h2, h3, h4, h5, h6, h7⟩⟩ := h.row
  · omega
  · obtain ⟨c0, c1⟩ := accCells_two ks k x hx
    rw [← h7, List.getElem?_take_of_lt (by omega), Array.getElem?_toList] at c0 c1
    exact ⟨g, cap, rfl, by simp [World.cell?, h3, c0], by simp [World.cell?, h3, c1]⟩

theorem row_slice {W : World} {n1 : Nat} {v : Value} {ks : List Acc} (h : W.ownsRow n1 75 2 v ks.length (accCells ks)) : ∃ p c, v = .slice p ks.length c ∧ ks.length ≤ c := by
  obtain ⟨h0, ⟨rfl, hz⟩ | ⟨g, cap, cur, rfl, h2, h3, h4, h5, h6, h7⟩⟩ := h
  · exact ⟨none, 0, by rw [hz], by omega⟩
  · exact ⟨_, cap, rfl, h4⟩
theorem HeldAt.start {J : List Led.Leg → World → Prop} {lb mb nn Bm n1 : Nat} {pv v : Value} {M : DataW Unit} {ks : List Acc} {W W2 : World} (hJ : AbidesFrom W.heap.size J) (h0 : J [] W) (hbox : W.heap[Bm]? = some (.cells #[.pointer (some ⟨lb, 0, none⟩)] 36 (0, 0)))
    (hled : W.heap[lb]? = some (.cells #[pv, .map (some mb)] 71 (0, 0))) (hmap : accM W mb nn M) (hrow : W2.ownsRow n1 75 2 v ks.length (accCells ks)) (hb : Below W.heap.size W W2) : HeldAt J lb mb nn Bm n1 pv v M ks 0 W2 :=
  ⟨by
    have hg : W.grownBy W2 none := ⟨hb.os, hb.tape, hb.output, hb.size, fun k hk _ => hb.block k hk⟩
    simpa using hJ [] W W2 none h0 hg (fun r e => by cases e), (hb.block Bm (lt_of_block hbox)).trans hbox, (hb.block lb (lt_of_block hled)).trans hled, owns_below hmap hb, hrow⟩
theorem HeldAt.below {J : List Led.Leg → World → Prop} {lb mb nn Bm n1 : Nat} {pv v : Value} {M : DataW Unit} {ks : List Acc} {k : Nat} {W W2 : World} (h : HeldAt J lb mb nn Bm n1 pv v M ks k W) {B : Nat} (hJ : AbidesFrom B J) (hb : Below W.heap.size W W2) : HeldAt J lb mb nn Bm n1 pv v M ks k W2 := by
  have hg : W.grownBy W2 none := ⟨hb.os, hb.tape, hb.output, hb.size, fun k hk _ => hb.block k hk⟩
  exact ⟨hJ _ W W2 none h.J hg (fun r e => by cases e), (hb.block Bm (lt_of_block h.box)).trans h.box, (hb.block lb (lt_of_block h.led)).trans h.led, owns_below h.map hb, h.row.kept hg (by by_cases e : v.ownBlock = none; exact .inl e; exact .inr e)⟩
theorem slot_eq {a : Act} {t : Nat} {v : Value} (h : a.eval (.tmp t) = v) : a.tmps[t]?.getD undef = v := by
  rw [← h]; simp [Act.eval]
theorem HeldAt.next {J : List Led.Leg → World → Prop} {lb mb nn Bm n1 n₀ : Nat} {pv v : Value} {M : DataW Unit} {ks : List Acc} {k : Nat} {W W2 : World} {x : Acc} (h : HeldAt J lb mb nn Bm n1 pv v M ks k W) (hx : ks[k]? = some x) (hlb : lb < n₀) (hmb : mb < n₀)
    (hJ : J ((ks.take k).map (legOf M) ++ [legOf M x]) W2) (hk : KpH n₀ W W2) : HeldAt J lb mb nn Bm n1 pv v M ks (k + 1) W2 := by
  refine ⟨?_, (hk.2 Bm _ _ (Or.inr rfl) h.box).trans h.box, (hk.1.block lb hlb).trans h.led, ?_, ?_⟩
  · rw [take_snoc ks k x hx, List.map_append]; exact hJ
  · obtain ⟨es, clock, h1, h2⟩ := h.map
    exact ⟨es, clock, (hk.1.block mb hmb).trans h1, h2⟩
  · obtain ⟨h0, h1 | ⟨g, cap, cur, rfl, h2, h3, h4⟩⟩ := h.row
    · exact ⟨h0, .inl h1⟩
    · exact ⟨h0, .inr ⟨g, cap, cur, rfl, h2, (hk.2 g cur _ (Or.inl rfl) h3).trans h3, h4⟩⟩
set_option maxHeartbeats 2000000 in
theorem held1_stops (n : Nat) (hn : 5 ≤ n) (lb mb nn Bm n₀ : Nat) (pv : Value) (M : DataW Unit) (w : World) (hBm : w.heap[Bm]? = some (.cells #[.pointer (some ⟨lb, 0, none⟩)] 36 (0, 0))) (hn₀ : n₀ ≤ w.heap.size) (hlb : lb < n₀) (hmb : mb < n₀)
    (hL : w.heap[lb]? = some (.cells #[pv, .map (some mb)] 71 (0, 0))) (hM : accM w mb nn M) (hsz : Maps.size M ≤ 1000000) :
    SeqStopsK Fence.wide n Tryd.prog 56 #[.pointer (some ⟨Bm, 0, none⟩)] legEnc (KpH n₀) (fun xs => ∃ ks, HeldIs M ks ∧ xs = ks.map (legOf M)) (fun _ => True) (Maps.size M) w := by
  intro l J Jx W hW hJ hJx hY h0
  have hbox := (hW.block Bm (lt_of_block hBm)).trans hBm
  have hled := (hW.block lb (lt_of_block hL)).trans hL
  have hmap := owns_below hM hW
  have hm : W.cell? ⟨Bm, 0, none⟩ = some (.pointer (some ⟨lb, 0, none⟩)) := by simp [World.cell?, hbox]
  obtain ⟨c0, c1, _⟩ := heap_cells2 hled
  have f58 : Fence.wide.fn 58 := trivial
  have f57 : Fence.wide.fn 57 := trivial
  have h1 : 1 ≤ n := by omega
  have HY := hid' hY
  have HJ := hid' hJ
  have HJX := hid' hJx
  have H0 := hid' h0
  have HW := hid' hW
  have HBM := hid' hBm
  have HLD := hid' hL
  have HM := hid' hM
  have HBX := hid' hbox
  have HLW := hid' hled
  have HMW := hid' hmap
  clear hY hJ hJx h0 hW hBm hL hM hbox hled
  refine callsIn_of_wp Tryd.func56 rfl trivial ?_ rfl
  simp only [Tryd.ntmps56, List.size_toArray, List.length_cons, List.length_nil, Nat.reduceAdd, Nat.reduceSub, Array.replicate_succ, Array.replicate_zero, List.push_toArray, List.append_toArray, List.nil_append, List.cons_append]
  have hB1 : Below W.heap.size W (W.alloc (.cells #[.map (some mb)] 69)) := (Below.refl _ _).alloc (Nat.le_refl _) _
  have HS := hid' (sorted_any W.heap.size mb nn M (W.alloc (.cells #[.map (some mb)] 69)) (by simp) (new_cell rfl rfl) (owns_below hmap hB1) hsz)
  have HB1 := hid' hB1
  clear hmap hB1
  gi_wp2_with (first
    | (gi_at_call 58; refine (keysIt_in Fence.wide (n - 1) trivial rfl _ _).mono ?_; rintro e w' ⟨rfl, rfl⟩)
    | (gi_at_call 57; refine (callsIn_wide.2 HS.out).mono ?_; rintro e w2 ⟨v, ks, rfl, hH, hrow, hb⟩; obtain ⟨vp, vc, hv, hvc⟩ := row_slice hrow; subst hv; have hkl : (ks.length : Int) ≤ 1000000 := (by have := hH.2; omega); have HVC := hid' hvc; have HH := hid' hH; have HK0 := hid' (HeldAt.start HJ.out H0.out HBX.out HLW.out HMW.out hrow (HB1.out.trans (hb.mono (by simp)))); have HZ2 := hid' (And.intro hrow hb); clear hH hrow hb hvc))
  generalize hn1 : (W.alloc (Obj.cells #[Value.map (some mb)] 69)).heap.size = n1 at *
  clear hm c0 c1 H0 HBX HLW HMW HB1 HS
  gi_loopw [14] (fun iv wr => ∃ k : Nat, iv = .int .i64 (k : Int) ∧ k ≤ ks.length ∧ Hid (HeldAt J lb mb nn Bm n1 pv (.slice vp ks.length vc) M ks k wr)) (fun iv _ => ks.length - (intOf iv).toNat)
  case atStart => exact ⟨0, rfl, Nat.zero_le _, HK0⟩
  case round =>
    obtain ⟨k, rfl, hk, HK⟩ := hrel
    by_cases hkn : k < ks.length
    · obtain ⟨x, hx⟩ : ∃ x, ks[k]? = some x := ⟨_, List.getElem?_eq_getElem hkn⟩
      obtain ⟨g, cap, hv, x0, x1⟩ := HK.out.at hx
      obtain ⟨rfl, rfl⟩ : vp = some ⟨g, 0, none⟩ ∧ vc = cap := by simp at hv; exact hv
      clear hv
      have g0 : decide ((k : Int) < (ks.length : Int)) = true := by simp; omega
      have j1 : (0 : Int) ≤ (k : Int) := by omega
      have j2 : (k : Int) < (ks.length : Int) := by omega
      gi_wp2
      have hB4 : Below wr.heap.size wr (wr.alloc (.cells #[.string x.p, .string x.c] 75)).drew := ((Below.refl _ _).alloc (Nat.le_refl _) _).drew
      have y0 : (wr.alloc (.cells #[.string x.p, .string x.c] 75)).drew.cell? ⟨wr.heap.size, 0, none⟩ = some (.string x.p) := drew_cell (new_cell rfl rfl)
      have y1 : (wr.alloc (.cells #[.string x.p, .string x.c] 75)).drew.cell? ⟨wr.heap.size, 1, none⟩ = some (.string x.c) := drew_cell (new_cell rfl rfl)
      have HK4 := hid' (HK.out.below HJ.out hB4)
      have HB4 := hid' hB4
      have y2 : (wr.alloc (.cells #[.string x.p, .string x.c] 75)).drew.cell? ⟨Bm, 0, none⟩ = some (.pointer (some ⟨lb, 0, none⟩)) := by simp [World.cell?, HK4.out.box]
      obtain ⟨_, y3, _⟩ := heap_cells2 HK4.out.led
      have y4 := (lookup_own HK4.out.map x.hp x.hc).1
      have HX := hid' hx
      obtain ⟨fn, tmps, assign, body, hy, hR⟩ := HY.out ((ks.take k).map (legOf M)) (legOf M x) _ HK4.out.J (by have := HH.out.2; simp; omega)
      have hen : legEnc (legOf M x) = #[.agg #[.string x.p, .string x.c, .int .i64 (balOf M x.p x.c)]] := rfl
      rw [hen] at hy
      have HRR := hid' hR
      clear hB4 hx x0 x1 hR hen
      obtain ⟨bal, hbal⟩ : ∃ bal, Hid (bal = balOf M x.p x.c) := ⟨_, rfl⟩
      rw [← hbal.out] at hy y4
      refine regionIn_still [(18, .func (.yield l) #[] #[]), (19, .pointer (some ⟨wr.heap.size, 0, none⟩)), (20, .string x.p), (21, .pointer (some ⟨wr.heap.size, 1, none⟩)), (22, .string x.c), (23, .pointer (some ⟨lb, 0, none⟩)), (24, .pointer (some ⟨lb, 0, none⟩)), (25, .pointer (some ⟨lb, 1, none⟩)), (26, .map (some mb)), (27, .agg #[.string x.p, .string x.c]), (28, .int .i64 bal), (29, .agg #[.string x.p, .string x.c, .int .i64 bal])]
        (by kernel_rfl) (by kernel_rfl) (by kernel_rfl) (of_decide_eq_true (by kernel_rfl)) (by simp) (by simp) (by kernel_rfl) ?hop ?tail
      case hop =>
        generalize wr.alloc (.cells #[.string x.p, .string x.c] 75) = W4 at *
        intro i d v hv
        match i, hv with
        | 0, hv =>
          obtain ⟨rfl, rfl⟩ := Prod.mk.inj (Option.some.inj hv)
          refine ⟨_, rfl, rfl, rfl, after_low (by kernel_rfl), fun a' h1 h2 => ⟨fun _ _ => trivial, ?_⟩⟩
          have e0 := slot_eq (h2 0 (by simp))
          clear h1 h2
          go_simp
          all_goals simpa [Act.eval] using e0
        | 1, hv =>
          obtain ⟨rfl, rfl⟩ := Prod.mk.inj (Option.some.inj hv)
          refine ⟨_, rfl, rfl, rfl, after_low (by kernel_rfl), fun a' h1 h2 => ⟨fun _ _ => trivial, ?_⟩⟩
          have e4 := slot_eq (h2 4 (by simp))
          clear h1 h2
          go_simp
          all_goals simpa [Act.eval] using e4
        | 2, hv =>
          obtain ⟨rfl, rfl⟩ := Prod.mk.inj (Option.some.inj hv)
          refine ⟨_, rfl, rfl, rfl, after_low (by kernel_rfl), fun a' h1 h2 => ⟨fun _ _ => trivial, ?_⟩⟩
          have e19 := slot_eq (h1 1 19 _ rfl (after_has (by kernel_rfl)))
          clear h1 h2
          go_simp
          all_goals simpa [Act.eval] using e19
        | 3, hv =>
          obtain ⟨rfl, rfl⟩ := Prod.mk.inj (Option.some.inj hv)
          refine ⟨_, rfl, rfl, rfl, after_low (by kernel_rfl), fun a' h1 h2 => ⟨fun _ _ => trivial, ?_⟩⟩
          have e4 := slot_eq (h2 4 (by simp))
          clear h1 h2
          go_simp
          all_goals simpa [Act.eval] using e4
        | 4, hv =>
          obtain ⟨rfl, rfl⟩ := Prod.mk.inj (Option.some.inj hv)
          refine ⟨_, rfl, rfl, rfl, after_low (by kernel_rfl), fun a' h1 h2 => ⟨fun _ _ => trivial, ?_⟩⟩
          have e21 := slot_eq (h1 3 21 _ rfl (after_has (by kernel_rfl)))
          clear h1 h2
          go_simp
          all_goals simpa [Act.eval] using e21
        | 5, hv =>
          obtain ⟨rfl, rfl⟩ := Prod.mk.inj (Option.some.inj hv)
          refine ⟨_, rfl, rfl, rfl, after_low (by kernel_rfl), fun a' h1 h2 => ⟨fun _ _ => trivial, ?_⟩⟩
          have e1 := slot_eq (h2 1 (by simp))
          clear h1 h2
          go_simp
          all_goals simpa [Act.eval] using e1
        | 6, hv =>
          obtain ⟨rfl, rfl⟩ := Prod.mk.inj (Option.some.inj hv)
          refine ⟨_, rfl, rfl, rfl, after_low (by kernel_rfl), fun a' h1 h2 => ⟨fun _ _ => trivial, ?_⟩⟩
          have e23 := slot_eq (h1 5 23 _ rfl (after_has (by kernel_rfl)))
          clear h1 h2
          go_simp
          all_goals simpa [Act.eval] using e23
        | 7, hv =>
          obtain ⟨rfl, rfl⟩ := Prod.mk.inj (Option.some.inj hv)
          refine ⟨_, rfl, rfl, rfl, after_low (by kernel_rfl), fun a' h1 h2 => ⟨fun _ _ => trivial, ?_⟩⟩
          have e24 := slot_eq (h1 6 24 _ rfl (after_has (by kernel_rfl)))
          clear h1 h2
          go_simp
          all_goals simpa [Act.eval] using e24
        | 8, hv =>
          obtain ⟨rfl, rfl⟩ := Prod.mk.inj (Option.some.inj hv)
          refine ⟨_, rfl, rfl, rfl, after_low (by kernel_rfl), fun a' h1 h2 => ⟨fun _ _ => trivial, ?_⟩⟩
          have e25 := slot_eq (h1 7 25 _ rfl (after_has (by kernel_rfl)))
          clear h1 h2
          go_simp
          all_goals simpa [Act.eval] using e25
        | 9, hv =>
          obtain ⟨rfl, rfl⟩ := Prod.mk.inj (Option.some.inj hv)
          refine ⟨_, rfl, rfl, rfl, after_low (by kernel_rfl), fun a' h1 h2 => ⟨fun _ _ => trivial, ?_⟩⟩
          have e4 := slot_eq (h2 4 (by simp))
          clear h1 h2
          go_simp
          all_goals simpa [Act.eval] using e4
        | 10, hv =>
          obtain ⟨rfl, rfl⟩ := Prod.mk.inj (Option.some.inj hv)
          refine ⟨_, rfl, rfl, rfl, after_low (by kernel_rfl), fun a' h1 h2 => ⟨fun _ _ => trivial, ?_⟩⟩
          have e26 := slot_eq (h1 8 26 _ rfl (after_has (by kernel_rfl)))
          have e27 := slot_eq (h1 9 27 _ rfl (after_has (by kernel_rfl)))
          clear h1 h2
          go_simp
          all_goals simpa [Act.eval] using e26
        | 11, hv =>
          obtain ⟨rfl, rfl⟩ := Prod.mk.inj (Option.some.inj hv)
          refine ⟨_, rfl, rfl, rfl, after_low (by kernel_rfl), fun a' h1 h2 => ⟨fun _ _ => trivial, ?_⟩⟩
          have e20 := slot_eq (h1 2 20 _ rfl (after_has (by kernel_rfl)))
          have e22 := slot_eq (h1 4 22 _ rfl (after_has (by kernel_rfl)))
          have e28 := slot_eq (h1 10 28 _ rfl (after_has (by kernel_rfl)))
          clear h1 h2
          go_simp
          all_goals simpa [Act.eval] using e20
        | i + 12, hv => simp at hv
      case tail =>
        simp only [List.length_cons, List.length_nil, Nat.reduceAdd, List.drop_succ_cons, List.drop_zero, fillSlots, List.foldl_cons, List.foldl_nil]
        generalize wr.alloc (.cells #[.string x.p, .string x.c] 75) = W4 at *
        gi_wp2
        refine HRR.out.mono ?_
        rintro e W3 (⟨rfl, hJ3, hk3⟩ | ⟨rfl, hJx3⟩)
        · have HN := hid' (HK4.out.next HX.out hlb hmb hJ3 hk3)
          clear hJ3 hk3
          gi_wp2
          go_roundw
          case rel => exact ⟨k + 1, by go_num, by omega, HN⟩
          case measure => simp [intOf]; omega
        · gi_wp2
          refine bodyPost_ret (results_none rfl _ _ _) rfl ?_
          exact ⟨⟨_, rfl⟩, .inr ⟨_, trivial, hJx3⟩⟩
    · obtain rfl : k = ks.length := by omega
      have g9 : decide (ks.length < ks.length) = false := by simp
      clear hkn
      gi_wp2
      go_end0
      exact ⟨⟨_, rfl⟩, .inl ⟨_, ⟨ks, HH.out.1, rfl⟩, by have := HK.out.J; rwa [List.take_length] at this⟩⟩
end Go.Proofs.YtmmbhmlhenpgbaaDoor
