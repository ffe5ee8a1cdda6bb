/- Proved: lemmas and contracts of the functions that the law reaches, part 25 of 28: DnBegin, DnTerms, DnRef, DnTold, DnToldW, EnNm, EnWith. Conditions: as each states. -/
import Derived.Maps.AppendAt
import Derived.Deep.DeepCutAuto
import Derived.Deep.AppendLies
import Derived.Laws.OwnMore
import Derived.IntWalk
import Derived.Test.YtcpobnknmegkmaaGreatDoorDne5
import Derived.Test.YtcpobnknmegkmaaGreatDoorDne6
import Derived.Test.YtcpobnknmegkmaaGreatDoorDne12
import Derived.Test.YtcpobnknmegkmaaGreatDoorDne21
import Derived.Test.YtcpobnknmegkmaaGreatDoorDne23
import Derived.Test.YtcpobnknmegkmaaGreatDoorDne24
namespace Go.Proofs.YtcpobnknmegkmaaGreatDoor
open Go.RowKit
open Rw
set_option linter.unusedVariables false
set_option linter.unusedSimpArgs false
set_option maxRecDepth 100000
namespace Co
theorem index_99 (y : UInt8) : (Lib.indexByte [110, 98, 100, 63, 99] y == 4) = (y == 99) := by
  have e : ∀ (b : UInt8) (l : List UInt8), Lib.indexByte (b :: l) y = if (b == y) = true then 0 else if (Lib.indexByte l y == -1) = true then -1 else Lib.indexByte l y + 1 := fun b l => rfl
  have e0 : Lib.indexByte [] y = -1 := rfl
  rw [e, e, e, e, e, e0]
  by_cases h1 : y = 110
  · subst h1; decide
  by_cases h2 : y = 98
  · subst h2; decide
  by_cases h3 : y = 100
  · subst h3; decide
  by_cases h4 : y = 63
  · subst h4; decide
  by_cases h5 : y = 99
  · subst h5; decide
  have f : ∀ b : UInt8, y ≠ b → (b == y) = false := fun b h => by simpa using fun e => h e.symm
  rw [f 110 h1, f 98 h2, f 100 h3, f 63 h4, f 99 h5]
  have : (y == 99) = false := by simpa using h5
  rw [this]
  rfl
theorem check_good (t : T) : t.check = 0 ↔ t.good := by
  unfold T.check T.good T.ty
  cases hr : t.right with
  | false =>
    simp only [Bool.false_and, cond_false]
    constructor
    · intro h; cases h
    · rintro ⟨h1, h2, h3⟩
      unfold T.right at hr
      rw [h1, h2] at hr
      cases hr
  | true =>
    have hs : small t = true := by unfold T.right at hr; rw [Bool.and_eq_true] at hr; exact hr.1
    simp only [Bool.true_and, cond_true, index_99]
    cases hy : (t.letter == 99) with
    | false =>
      simp only [cond_false]
      constructor
      · intro h; cases h
      · rintro ⟨h1, h2, h3⟩
        rw [h2] at hy
        cases hy
    | true =>
      cases ha : t.ahead with
      | true => simp
      | false => simp [hs]; simpa using hy
end Co
open Classical in
noncomputable def pickB (lab : ByteArray) (wh : Int) : Bool := if lab = ⟨#[]⟩ then wh == 0 else Led.isName lab && (wh == 1 || wh == 2)
theorem dnpick_any (lab : ByteArray) (wh : Int) (w : World) (hl : lab.size ≤ 2000000) : Calls Tryz.prog 15 #[.agg #[.string lab, .int .i64 wh]] w (Gives (.bool (pickB lab wh)) w) := by
  have HB := hid' ((Below.refl w.heap.size w).alloc (Nat.le_refl _) (.cells #[.string lab, .int .i64 wh] 37))
  have HC := hid' (heap_alloc_new w (.cells #[.string lab, .int .i64 wh] 37))
  obtain ⟨R, hR⟩ : ∃ R, Hid (pickB lab wh = R) := ⟨_, hid' rfl⟩
  rw [hR.out]
  by_cases h0 : lab = ⟨#[]⟩
  · subst h0
    have e := hid' (show R = (wh == 0) by rw [← hR.out]; unfold pickB; rw [if_pos rfl])
    go_enter Tryz.func15, Tryz.ntmps15
    go_wp2_with fail
    go_ret
    exact ⟨by rw [e.out]; rfl, HB.out⟩
  · have g0 := nonempty_list h0
    have hq := hid' (show R = (Led.isName lab && (wh == 1 || wh == 2)) by rw [← hR.out]; unfold pickB; rw [if_neg h0])
    have HT := hid' (fun W => type_feed lab W (by omega))
    obtain ⟨nm, hnm⟩ : ∃ nm, Hid (Led.isName lab = nm) := ⟨_, hid' rfl⟩
    rw [hnm.out] at HT hq
    clear h0 hR
    go_enter Tryz.func15, Tryz.ntmps15
    go_upto_region 1 with (fail)
    generalize World.alloc _ _ = w1 at *
    have c0 := bcells HC.out 0 _ rfl
    go_upto_region 4 with (first | (go_at_call 21; refine (HT.out _).mono ?_; rintro e w2 ⟨rfl, b2⟩))
    have HB2 := hid' (HB.out.trans (b2.mono HB.out.size))
    have c1 := bcells (box_below b2 HC.out) 1 _ rfl
    clear b2 c0
    cases nm with
    | false =>
      have e := hid' (show R = false from hq.out)
      go_wp2_with fail
      go_ret
      exact ⟨by rw [e.out]; rfl, HB2.out⟩
    | true =>
      have e := hid' (show R = (wh == 1 || wh == 2) from hq.out)
      by_cases h1 : wh = 1
      · subst h1
        go_wp2_with fail
        go_ret
        exact ⟨by rw [e.out]; rfl, HB2.out⟩
      · have g1 : (wh == 1) = false := by rw [beq_eq_false_iff_ne]; exact h1
        have e2 := hid' (show R = (wh == 2) by rw [e.out, g1]; rfl)
        clear h1
        go_wp2_with fail
        go_ret
        exact ⟨by rw [e2.out]; rfl, HB2.out⟩
namespace Dn
open Classical in
noncomputable def beginR (t : Co.T) (day : Int) (F : List Fd.Feed) : Option R := if t.good ∧ dayOk day = true ∧ Fd.Ok F then some (acq (eyes F day) t 0 1000000) else none
end Dn
def wrongOut : Value := .tuple #[.slice none 0 0, .slice none 0 0, .int .i64 150]
/-- What Begin and Step return. -/
def DnPost (o : Option Dn.R) (day : Int) (w : World) (e : Ending) (w' : World) : Prop :=
  Below w.heap.size w w' ∧ match o with
    | none => e = .returned wrongOut
    | some r => ∃ vl vo, e = .returned (.tuple #[vl, vo, .int .i64 0]) ∧ LiveRow w.heap.size w' vl r.1 ∧ TranRow w.heap.size w' vo day r.2
theorem dn_row_mono {W : World} {b b' z n : Nat} {t : TypeId} {v : Value} {xs : List Value} (h : W.ownsRow b t z v n xs) (hb : b' ≤ b) : W.ownsRow b' t z v n xs :=
  ⟨h.1, h.2.imp id fun ⟨g, cap, cur, e1, e2, e3⟩ => ⟨g, cap, cur, e1, Nat.le_trans hb e2, e3⟩⟩
set_option maxHeartbeats 8000000 in
theorem dnbegin_any (t : Co.T) (day : Int) (F : List Fd.Feed) (ok : Nat → Prop) (v vf : Value) (w : World) (hv : CoreIn ok w t v) (hsz : t.size ≤ 2000000) (hF : FeedsAt w vf F) :
    Calls Tryz.prog 5 #[v, .int .i64 day, vf] w (DnPost (Dn.beginR t day F) day w) := by
  obtain ⟨p, c, hve, -⟩ := hv.open
  obtain ⟨op, n, s, ln, rfl⟩ : ∃ op n s ln, v = .agg #[.int .i64 op, .int .i64 n, .string s, .slice p ln c] := ⟨_, _, _, _, hve⟩
  clear hve
  obtain ⟨R, hR⟩ : ∃ R, Hid (Dn.beginR t day F = R) := ⟨_, hid' rfl⟩
  rw [hR.out]
  have HB0 := hid' ((Below.refl w.heap.size w).alloc (Nat.le_refl _) (.cells #[.int .i64 op, .int .i64 n, .string s, .slice p ln c] 24))
  have HC0 := hid' (heap_alloc_new w (.cells #[.int .i64 op, .int .i64 n, .string s, .slice p ln c] 24))
  have HV := hid' hv
  have HF := hid' hF
  obtain ⟨fp, fc, rfl, -, -⟩ := hF
  have HSZ := hid' hsz
  clear hv hsz
  go_enter Tryz.func5, Tryz.ntmps5
  go_upto_region 1 with (fail)
  generalize World.alloc _ _ = w0 at *
  have HS := hid' (Runs.start w0 day (.slice fp F.length fc))
  have hb1 := (Below.refl w0.heap.size w0).alloc (Nat.le_refl _) (.cells #[.int .i64 day, .slice fp F.length fc, .slice none 0 0, .slice none 0 0] 54)
  have HB1 := hid' (HB0.out.trans (hb1.mono HB0.out.size))
  have HC1 := hid' (box_below hb1 HC0.out)
  have HLT := hid' (show w.heap.size ≤ w0.heap.size from HB0.out.size)
  go_upto_region 2 with (fail)
  obtain ⟨rb, hrb⟩ : ∃ rb, rb = w0.heap.size := ⟨_, rfl⟩
  rw [← hrb] at HS ⊢
  have HRB := hid' hrb
  clear hb1 hrb
  generalize World.alloc w0 _ = w1 at *
  have HCK := hid' (fun W (h : Below w1.heap.size w1 W) => checkT_any t _ W ((HV.out.under (HB1.out.trans (h.mono HB1.out.size))).at' (Nat.le_refl _)) HSZ.out)
  have HRT := hid' (fun W (h : Below w1.heap.size w1 W) => dnright_any day _ F W (HF.out.below (HB1.out.trans (h.mono HB1.out.size))))
  obtain ⟨C, hC⟩ : ∃ C, Hid (t.check = C) := ⟨_, hid' rfl⟩
  obtain ⟨G, hG⟩ : ∃ G, Hid ((dayOk day && Fd.right F) = G) := ⟨_, hid' rfl⟩
  rw [hC.out] at HCK
  rw [hG.out] at HRT
  obtain ⟨d0, d1, d2, d3⟩ := heap_cells4 HC1.out
  have r0 := bcells HS.out.box 0 _ rfl
  have r1 := bcells HS.out.box 1 _ rfl
  by_cases hc0 : C = 0
  · subst hc0
    have hgood := hid' ((Co.check_good t).1 hC.out)
    cases G with
    | false =>
      have e := hid' (show R = none by
        rw [← hR.out]
        unfold Dn.beginR
        rw [if_neg]
        rintro ⟨-, h2, h3⟩
        have h := hG.out
        rw [h2, Fd.right_yes h3] at h
        cases h)
      go_wp2_with (first | (go_at_call 10; refine (HCK.out _ (Below.refl _ _)).mono ?_; rintro e w2 ⟨rfl, b2⟩; have HB2 := hid' b2; have r0' := keep_all b2 _ _ r0; have r1' := keep_all b2 _ _ r1; clear b2) | (go_at_call 11; refine (HRT.out _ HB2.out).mono ?_; rintro e w3 ⟨rfl, b3⟩; have HB3 := hid' (HB1.out.trans ((Below.more HB2.out b3).mono HB1.out.size)); clear b3))
      exact bodyPost_ret (results_tmp3 rfl _ _ _) rfl ⟨HB3.out, by rw [e.out]; rfl⟩
    | true =>
      have hok : dayOk day = true ∧ Fd.Ok F := by
        have h := hG.out
        rw [Bool.and_eq_true] at h
        exact ⟨h.1, Fd.right_ok h.2⟩
      have HOK := hid' hok
      have e := hid' (show R = some (Dn.acq (Dn.eyes F day) t 0 1000000) by
        rw [← hR.out]
        unfold Dn.beginR
        rw [if_pos ⟨hgood.out, hok⟩])
      have HDAY := hid' (show 0 ≤ day ∧ day ≤ 73048 by
        have h := hok.1
        unfold dayOk at h
        simpa using h)
      have HEN := hid' (show RunEnv w0 rb F day (.slice fp F.length fc) from ⟨HF.out.below HB0.out, HOK.out.2, HDAY.out, by rw [HRB.out]; exact Nat.le_refl _⟩)
      have hsm := (Co.small_iff t).1 hgood.out.1
      have HAQ := hid' (fun (W : World) (h : Below w1.heap.size w1 W) => dnacq_any HEN.out t ok _ 0 1000000 [] [] _ _ W (HV.out.under HB0.out) hgood.out.2.1 HSZ.out (Int.le_refl _) (by omega) (by unfold Dn.NumOk; omega) (by simp; omega) (by simp; omega) (HS.out.below h))
      clear hok hsm
      obtain ⟨A, hA⟩ : ∃ A, Hid (Dn.acq (Dn.eyes F day) t 0 1000000 = A) := ⟨_, hid' rfl⟩
      rw [hA.out] at HAQ e
      go_upto_region 4 with (first | (go_at_call 10; refine (HCK.out _ (Below.refl _ _)).mono ?_; rintro e w2 ⟨rfl, b2⟩; have HB2 := hid' b2; have r0' := keep_all b2 _ _ r0; have r1' := keep_all b2 _ _ r1; clear b2) | (go_at_call 11; refine (HRT.out _ HB2.out).mono ?_; rintro e w3 ⟨rfl, b3⟩; have HB3 := hid' (Below.more HB2.out b3); clear b3))
      clear d0 d1 d2 d3 r0' r1' r0 r1
      have HAC := hid' (HAQ.out w3 HB3.out)
      obtain ⟨d0, d1, d2, d3⟩ := heap_cells4 (box_below HB3.out HC1.out)
      go_upto_region 5 with (first | (go_at_call 12; refine HAC.out.mono ?_; rintro e w5 ⟨⟨x, rfl⟩, ⟨vl, vo, hr5⟩, k5⟩; have HP5 := hid' (And.intro hr5 k5); clear hr5 k5))
      clear d0 d1 d2 d3
      have HFA := hid' (fun W (h : Below w5.heap.size w5 W) => And.intro (bcells (box_below h HP5.out.1.box) 2 _ rfl) (bcells (box_below h HP5.out.1.box) 3 _ rfl))
      refine wp_region_keep (Below w5.heap.size w5) (by kernel_rfl) (by kernel_rfl) (Below.refl _ _).drew ?_
      repeat (first
        | (refine wpKeep_skip ?_ ?_
           · rfl
           simp only [Act.put, List.setIfInBounds_toArray, List.set_cons_zero, List.set_cons_succ])
        | (apply wpKeep_val
           · rfl
           · (intro w hSw; obtain ⟨c2, c3⟩ := HFA.out w hSw; first | (go_simp; done) | (go_simp; with_reducible rfl))
           simp only [Act.put, List.setIfInBounds_toArray, List.set_cons_zero, List.set_cons_succ]))
      refine wpKeep_nil ?_
      intro w6 hS'
      have HR6 := hid' (HP5.out.1.below hS')
      clear hS'
      go_wp2_with fail
      refine bodyPost_ret (results_tmp3 rfl _ _ _) rfl ⟨HB0.out.trans (HR6.out.bel.mono (by rw [HRB.out]; exact HLT.out)), ?_⟩
      rw [e.out]
      have hle : w.heap.size ≤ rb + 1 := by rw [HRB.out]; exact Nat.le_succ_of_le HLT.out
      exact ⟨_, _, rfl, dn_row_mono (show LiveRow (rb + 1) w6 vl A.1 by simpa using HR6.out.ls) hle, dn_row_mono (show TranRow (rb + 1) w6 vo day A.2 by simpa using HR6.out.ts) hle⟩
  · have g0 : (C != 0) = true := by rw [bne_iff_ne]; exact hc0
    have e := hid' (show R = none by
      rw [← hR.out]
      unfold Dn.beginR
      rw [if_neg]
      rintro ⟨h1, -, -⟩
      exact hc0 (by rw [← hC.out]; exact (Co.check_good t).2 h1))
    clear hc0
    go_wp2_with (first | (go_at_call 10; refine (HCK.out _ (Below.refl _ _)).mono ?_; rintro e w2 ⟨rfl, b2⟩; have HB2 := hid' (HB1.out.trans (b2.mono HB1.out.size)); clear b2))
    exact bodyPost_ret (results_tmp3 rfl _ _ _) rfl ⟨HB2.out, by rw [e.out]; rfl⟩
end Go.Proofs.YtcpobnknmegkmaaGreatDoor
namespace Go.Proofs.YtcpobnknmegkmaaGreatDoor
open Go.RowKit
open Rw
set_option linter.unusedVariables false
set_option linter.unusedSimpArgs false
set_option maxRecDepth 100000
/-- A value's four cells. -/
abbrev Q4 : Type := Value × Value × Value × Value
def Q4.val (q : Q4) : Value := .agg #[q.1, q.2.1, q.2.2.1, q.2.2.2]
def Q4.cells (q : Q4) : List Value := [q.1, q.2.1, q.2.2.1, q.2.2.2]
theorem info_core : (Tryz.prog.info? 24).map (fun i => (i.zero, i.size, i.bytes)) = some (some (.agg #[.int .i64 0, .int .i64 0, .string ⟨#[]⟩, .slice none 0 0]), 4, 56) := by kernel_rfl
/-- Terms in a row of the call's own; what lies behind them lies in an earlier world. -/
def TermRow (ok : Nat → Prop) (W0 : World) (base : Nat) (L : List Co.T) (v : Value) (W : World) : Prop := ∃ qs : List Q4, qs.length = L.length ∧ W.ownsRow base 24 4 v L.length (qs.flatMap Q4.cells) ∧
  ∀ (j : Nat) u, L[j]? = some u → ∃ q : Q4, qs[j]? = some q ∧ CoreIn ok W0 u q.val
theorem TermRow.nil (ok : Nat → Prop) (W0 : World) (base : Nat) (W : World) : TermRow ok W0 base [] (.slice none 0 0) W :=
  ⟨[], rfl, ⟨rfl, .inl ⟨rfl, rfl⟩⟩, fun j u h => by simp at h⟩
/-- Which block is written: the row's, or a new one. -/
def Moved (W : World) (r r' : Option Nat) : Prop := r' = r ∨ ∃ b, r' = some b ∧ W.heap.size ≤ b
theorem Moved.refl (W : World) (r : Option Nat) : Moved W r r := .inl rfl
theorem grown_comp {a b c : World} {r r' : Option Nat} (h : a.grownBy b r) (m : Moved a r r') (k : b.grownBy c r') : a.grownBy c r :=
  ⟨k.os.trans h.os, k.tape.trans h.tape, k.output.trans h.output, Nat.le_trans h.size k.size, fun i hi hne => (k.block i (Nat.lt_of_lt_of_le hi h.size) (by
    rcases m with rfl | ⟨x, rfl, hx⟩
    · exact hne
    · intro e
      have : i = x := by simpa using e
      omega)).trans (h.block i hi hne)⟩
theorem Moved.comp {a b : World} {r r' r'' : Option Nat} (m : Moved a r r') (hs : a.heap.size ≤ b.heap.size) (m' : Moved b r' r'') : Moved a r r'' := by
  rcases m' with rfl | ⟨x, rfl, hx⟩
  · exact m
  · exact .inr ⟨x, rfl, Nat.le_trans hs hx⟩
theorem TermRow.kept {ok : Nat → Prop} {W0 : World} {base : Nat} {L : List Co.T} {v : Value} {W W' : World} (h : TermRow ok W0 base L v W) (b : Below W.heap.size W W') : TermRow ok W0 base L v W' := by
  obtain ⟨qs, h1, h2, h3⟩ := h
  exact ⟨qs, h1, ⟨h2.1, h2.2.imp id fun ⟨g, cap, cur, e1, e2, e3, e4⟩ => ⟨g, cap, cur, e1, e2, (b.block g (lt_of_block e3)).trans e3, e4⟩⟩, h3⟩
theorem append_core {w : World} {ops : Array Oper} {rest : List Oper} {o : Oper} {a : Act} {Q : Exit → Act → World → Prop} (hgd : o.guard = none) (s x : Operand)
    (ho : o.op = .call { callee := .builtin .append, args := #[s, x], argTypes := #[22, 22] })
    (ok : Nat → Prop) (W0 : World) (base : Nat) (v : Value) (L : List Co.T) (hs : a.eval s = v) (hown : TermRow ok W0 base L v w) (u : Co.T) (op n : Int) (t : ByteArray) (p : Option Addr) (len c : Nat) (hu : CoreIn ok W0 u (.agg #[.int .i64 op, .int .i64 n, .string t, .slice p len c])) (hx : a.eval x = .slice (some ⟨w.heap.size, 0, none⟩) 1 1)
    (hbound : L.length + 1 ≤ 1000000) (hbase : base ≤ w.heap.size)
    (h : ∀ v' w', TermRow ok W0 base (L ++ [u]) v' w' → w.grownBy w' v.ownBlock → Moved w v.ownBlock v'.ownBlock → wpList Tryz.prog ops Q rest (a.put o.dst v') w') :
    wpList Tryz.prog ops Q (o :: rest) a (w.alloc (.cells #[.int .i64 op, .int .i64 n, .string t, .slice p len c] 24)) := by
  obtain ⟨i, hi, hz, hsz, hby⟩ := info_split info_core
  obtain ⟨qs, h1, h2, h3⟩ := hown
  refine wpList_append_own_at _ hgd s x 22 ho base 24 i _ 4 56 Tryz.underlying22 hi hz hsz hby rfl (by decide) v L.length _ hs (World.ownsRow.alloc h2 _) ⟨w.heap.size, 0, none⟩ 1 1 (Q4.cells (.int .i64 op, .int .i64 n, .string t, .slice p len c)) hx rfl
    (fun j u hj => ?_) (fun u hu => ?_) (by unfold maxLen; omega) (by omega) (by simp; omega) (fun v' w' k1 k2 _ k4 => h v' w' ?_ (grown_trans (grown_of_below ((Below.refl _ _).alloc (Nat.le_refl _) _) _) k2) ?_)
  · rw [add_gen, World.cell?_alloc_new, Nat.zero_add, ← hj]
    simp [Q4.cells]
  · simp only [Q4.cells, List.mem_cons, List.not_mem_nil, or_false] at hu
    rcases hu with rfl | rfl | rfl | rfl <;> rfl
  · refine ⟨qs ++ [(.int .i64 op, .int .i64 n, .string t, .slice p len c)], by simp [h1], ?_, fun j x hj => ?_⟩
    · rw [List.length_append, List.flatMap_append]
      simpa using k1
    · by_cases hjl : j < L.length
      · rw [List.getElem?_append_left hjl] at hj
        obtain ⟨q', h4, h5⟩ := h3 j x hj
        exact ⟨q', by rw [List.getElem?_append_left (by omega)]; exact h4, h5⟩
      · have hj' := (List.getElem?_eq_some_iff.1 hj).1
        simp only [List.length_append, List.length_cons, List.length_nil] at hj'
        obtain rfl : j = L.length := by omega
        have : u = x := by simpa using hj
        subst this
        exact ⟨(.int .i64 op, .int .i64 n, .string t, .slice p len c), by rw [← h1]; simp, hu⟩
  · rcases k4 with e | e
    · exact .inl e
    · exact .inr ⟨_, e, by simp⟩
theorem pres_take {ks : List Co.T} : ∀ {i : Nat} {k : Co.T}, ks[i]? = some k → Dn.pres (ks.take (i + 1)) = Dn.pres (ks.take i) ++ Dn.pre k := by
  induction ks with
  | nil => intro i k h; cases h
  | cons a r ih =>
    intro i k h
    cases i with
    | zero =>
      obtain rfl : a = k := by simpa using h
      simp [Dn.pres]
    | succ i =>
      have := ih (i := i) (k := k) (by simpa using h)
      rw [List.take_succ_cons, List.take_succ_cons, Dn.pres, Dn.pres, this, List.append_assoc]
theorem pres_len (ks : List Co.T) : (Dn.pres ks).length = Co.sizes ks := by
  induction ks with
  | nil => rfl
  | cons a r ih => rw [Dn.pres, Co.sizes, List.length_append, ih, Dn.pre_len]
def TermPost (ok : Nat → Prop) (W0 : World) (base : Nat) (L : List Co.T) (l : Value) (w : World) (e : Ending) (w' : World) : Prop :=
  ∃ v, e = .returned v ∧ TermRow ok W0 base L v w' ∧ w.grownBy w' l.ownBlock ∧ Moved w l.ownBlock v.ownBlock
theorem TermRow.far {ok : Nat → Prop} {W0 : World} {base : Nat} {L : List Co.T} {v : Value} {W : World} (h : TermRow ok W0 base L v W) {b : Nat} (e : v.ownBlock = some b) : base ≤ b ∧ b < W.heap.size := by
  obtain ⟨qs, h1, h2, h3⟩ := h
  exact World.ownsRow.lt h2 b e
set_option maxHeartbeats 8000000 in
theorem dnterms_any (ok : Nat → Prop) (W0 : World) (base : Nat) (hb0 : W0.heap.size ≤ base) (t : Co.T) : ∀ (v l : Value) (L : List Co.T) (w : World), CoreIn ok W0 t v → Below W0.heap.size W0 w → TermRow ok W0 base L l w → base ≤ w.heap.size → L.length + t.size ≤ 900000 →
    Calls Tryz.prog 16 #[v, l] w (TermPost ok W0 base (L ++ Dn.pre t) l w) := by
  induction t using Co.T.ind with | h op n s ks ih => ?_
  intro v l L w hv hbw hrow hbase hL
  obtain ⟨q, c, rfl, hc, ho, hn, hs, hk⟩ := id hv.open
  simp only [Co.T.op, Co.T.n, Co.T.s, Co.T.ks] at hk hc hv ⊢
  have hz : (Co.T.mk op n s ks).size = 1 + Co.sizes ks := by rw [Co.T.size]
  have HIH := hid' ih
  have HK := hid' hk
  have HBW := hid' hbw
  have HB0 := hid' hb0
  have HBASE := hid' hbase
  have HLN := hid' (show L.length + (1 + Co.sizes ks) ≤ 900000 by omega)
  have HZ := hid' (show ks.length ≤ 900000 by have := Co.sizes_len ks; omega)
  have HV := hid' hv
  have HB := hid' ((Below.refl w.heap.size w).alloc (Nat.le_refl _) (.cells #[.int .i64 op, .int .i64 n, .string s, .slice q ks.length c] 24))
  have HC := hid' (heap_alloc_new w (.cells #[.int .i64 op, .int .i64 n, .string s, .slice q ks.length c] 24))
  have HR := hid' (hrow.kept HB.out)
  have HOWN := hid' (show l.ownBlock ≠ some w.heap.size from fun e => Nat.lt_irrefl _ (hrow.far e).2)
  have HFAR := hid' (fun b (e : l.ownBlock = some b) => (hrow.far e).1)
  have HSZ := hid' (show (w.alloc (.cells #[.int .i64 op, .int .i64 n, .string s, .slice q ks.length c] 24)).heap.size = w.heap.size + 1 by simp)
  obtain ⟨R, hR⟩ : ∃ R, Hid (L ++ Dn.pre (.mk op n s ks) = R) := ⟨_, hid' rfl⟩
  rw [hR.out]
  clear ih hk hc ho hn hs hv hbw hrow hbase hL hz hb0
  go_enter Tryz.func16, Tryz.ntmps16
  go_upto_region 1 with (fail)
  generalize World.alloc _ _ = w1 at *
  obtain ⟨c0, c1, c2, c3⟩ := heap_cells4 HC.out
  go_wp2_with (refine append_core rfl _ _ rfl ok W0 base l L rfl HR.out _ op n s q ks.length c HV.out rfl (by have := HLN.out; omega) (by have := HSZ.out; have := HBASE.out; omega) (fun v' w2 h5 h6 h7 => ?_); refine halt' ?_)
  refine hid' ?_
  have HC2 := hid' ((h6.block _ (lt_of_block HC.out) (fun e => HOWN.out e.symm)).trans HC.out)
  have HJ0 := hid' (And.intro h5 (And.intro h6 h7))
  have HI0 := hid' h5
  obtain ⟨qs0, hq0, hown0, -⟩ := h5
  clear h6 h7 c0 c1 c2 c3 hq0 hown0
  obtain ⟨c0, c1, c2, c3⟩ := heap_cells4 HC2.out
  go_wp2_with fail
  clear c0 c1 c2 c3
  go_loopw [1, 14] (fun lv iv wr => ∃ (i : Nat), iv = .int .i64 (i : Int) ∧ i ≤ ks.length ∧ Hid (TermRow ok W0 base (L ++ (Co.T.mk op n s ks :: Dn.pres (ks.take i))) lv wr ∧ w1.grownBy wr l.ownBlock ∧ Moved w1 l.ownBlock lv.ownBlock)) (fun _ iv _ => ks.length - (intOf iv).toNat)
  case atStart => exact ⟨0, rfl, Nat.zero_le _, hid' ⟨by rw [List.take_zero]; exact HJ0.out.1, HJ0.out.2⟩⟩
  case round =>
    obtain ⟨i, rfl, hi, HJ⟩ := hrel
    have HCR := hid' ((HJ.out.2.1.block _ (lt_of_block HC.out) (fun e => HOWN.out e.symm)).trans HC.out)
    have HBR := hid' (show Below W0.heap.size W0 wr from HBW.out.trans (((HB.out.mono (Nat.le_trans HB0.out HBASE.out))).trans ⟨HJ.out.2.1.os, HJ.out.2.1.tape, HJ.out.2.1.output, HJ.out.2.1.size, fun k hk => HJ.out.2.1.block k (Nat.lt_of_lt_of_le hk (by have := HSZ.out; have := HBASE.out; have := HB0.out; omega)) (fun e => by have := HFAR.out k e.symm; have := HB0.out; omega)⟩))
    obtain ⟨d0, d1, d2, d3⟩ := heap_cells4 HCR.out
    by_cases hik : i < ks.length
    · obtain ⟨u, hu⟩ : ∃ u, ks[i]? = some u := ⟨_, List.getElem?_eq_getElem hik⟩
      obtain ⟨vk, hrw, hvk⟩ := HK.out i u hu
      obtain ⟨b, off, x0, y0, z0, u0, e, hlb, hve, r0, r1, r2, r3⟩ := hrw.keep (fun b h hl => ⟨h, HBR.out.block b hl⟩)
      subst e
      have HKV := hid' hvk
      obtain ⟨pk, ck, rfl, -, -, -, -, -⟩ := hvk.open
      obtain ⟨rfl, rfl, rfl, rfl⟩ : .int .i64 u.op = x0 ∧ .int .i64 u.n = y0 ∧ .string u.s = z0 ∧ .slice pk u.ks.length ck = u0 := by simpa using hve
      have g0 : decide ((i : Int) < (ks.length : Int)) = true := by simp; omega
      have k1 : (0 : Int) ≤ (i : Int) := by omega
      have k2 : (i : Int) < (ks.length : Int) := by omega
      have hiw : IntKind.i64.wrap ((i : Int) + 1) = (i : Int) + 1 := IntWalk.i64_in _ (by have := HZ.out; omega)
      have HUU := hid' hu
      have hba := (Below.refl wr.heap.size wr).alloc (Nat.le_refl _) (.cells #[.int .i64 u.op, .int .i64 u.n, .string u.s, .slice pk u.ks.length ck] 24)
      have hno := heap_alloc_new wr (.cells #[.int .i64 u.op, .int .i64 u.n, .string u.s, .slice pk u.ks.length ck] 24)
      obtain ⟨kop, hkop⟩ : ∃ o, Hid (u.op = o) := ⟨_, hid' rfl⟩
      obtain ⟨kn, hkn⟩ : ∃ o, Hid (u.n = o) := ⟨_, hid' rfl⟩
      obtain ⟨kst, hks⟩ : ∃ o, Hid (u.s = o) := ⟨_, hid' rfl⟩
      obtain ⟨kl, hkl⟩ : ∃ o, Hid (u.ks.length = o) := ⟨_, hid' rfl⟩
      rw [hkop.out, hkn.out, hks.out, hkl.out] at HKV hba hno
      rw [hkop.out] at r0
      rw [hkn.out] at r1
      rw [hks.out] at r2
      rw [hkl.out] at r3
      clear hve hu hrw hvk
      go_upto_region 5 with (fail)
      obtain ⟨kb, hkb⟩ : ∃ kb, kb = wr.heap.size := ⟨_, rfl⟩
      rw [← hkb] at hno ⊢
      clear hkb r0 r1 r2 r3 d0 d1 d2 d3
      have HKB := hid' hno
      have HBA := hid' hba
      clear hba hno
      generalize World.alloc wr _ = w4 at *
      obtain ⟨d0, d1, d2, d3⟩ := heap_cells4 HKB.out
      have hsz1 := HJ.out.2.1.size
      have HTC := hid' (HIH.out u (List.mem_of_getElem? HUU.out) _ u1 _ w4 HKV.out (HBR.out.trans (HBA.out.mono HBR.out.size)) (HJ.out.1.kept HBA.out) (by have := HSZ.out; have := HBASE.out; have := HBA.out.size; omega) (by
        have h1 := Co.sizes_take HUU.out
        have h2 := Co.sizes_take_le ks (i + 1)
        have h3 := HLN.out
        rw [List.length_append, List.length_cons, pres_len]
        omega))
      clear hsz1
      go_wp2_with (first | (go_at_call 16; refine HTC.out.mono ?_; rintro e w5 ⟨v5, rfl, r5, g5, m5⟩))
      have HNX := hid' (show TermRow ok W0 base (L ++ (Co.T.mk op n s ks :: Dn.pres (ks.take (i + 1)))) v5 w5 ∧ w1.grownBy w5 l.ownBlock ∧ Moved w1 l.ownBlock v5.ownBlock from by
        have g4 := grown_comp HJ.out.2.1 HJ.out.2.2 (grown_of_below HBA.out u1.ownBlock)
        refine ⟨?_, grown_comp g4 HJ.out.2.2 g5, HJ.out.2.2.comp g4.size m5⟩
        rw [pres_take HUU.out]
        simpa using r5)
      clear r5 g5 m5 d0 d1 d2 d3
      go_roundw
      case rel => exact ⟨i + 1, by go_num, by omega, HNX⟩
      case measure => simp only [intOf]; omega
    · obtain rfl : i = ks.length := by omega
      have g0 : decide (ks.length < ks.length) = false := by simp
      have HY := hid' (show R = L ++ (Co.T.mk op n s ks :: Dn.pres (ks.take ks.length)) by rw [← hR.out, List.take_length, Dn.pre])
      clear hik
      go_wp2_with fail
      go_ret
      refine ⟨_, rfl, by rw [HY.out]; exact HJ.out.1, grown_comp (grown_of_below HB.out l.ownBlock) (.inl rfl) HJ.out.2.1, ?_⟩
      exact Moved.comp (.inl rfl) (by have := HSZ.out; omega) HJ.out.2.2
end Go.Proofs.YtcpobnknmegkmaaGreatDoor
namespace Go.Proofs.YtcpobnknmegkmaaGreatDoor
open Go.RowKit
open Gen
open Rw
set_option linter.unusedVariables false
set_option linter.unusedSimpArgs false
set_option maxRecDepth 100000
def numBad (n : Int) : Bool := decide (n < -1000000000000000) || decide (1000000000000000 < n)
theorem num_bad (n : Int) : (!(n == Num.clamp n)) = numBad n := by
  unfold numBad
  by_cases h1 : n < -1000000000000000
  · have := Num.clamp_ge n
    rw [decide_eq_true h1, Bool.true_or, Bool.not_eq_true', beq_eq_false_iff_ne]
    omega
  · by_cases h2 : 1000000000000000 < n
    · have := Num.clamp_le n
      rw [decide_eq_true h2, Bool.or_true, Bool.not_eq_true', beq_eq_false_iff_ne]
      omega
    · rw [decide_eq_false h1, decide_eq_false h2, Num.clamp_in (by omega) (by omega)]
      simp
theorem day_bad (d : Int) : (!(decide (0 ≤ d) && decide (d ≤ 73048))) = (decide (d < 0) || decide (73048 < d)) := by
  by_cases h1 : 0 ≤ d
  · by_cases h2 : d ≤ 73048
    · rw [decide_eq_true h1, decide_eq_true h2, decide_eq_false (by omega : ¬ d < 0), decide_eq_false (by omega : ¬ 73048 < d)]; rfl
    · rw [decide_eq_true h1, decide_eq_false h2, decide_eq_false (by omega : ¬ d < 0), decide_eq_true (by omega : 73048 < d)]; rfl
  · rw [decide_eq_false h1, decide_eq_true (by omega : d < 0)]; rfl
end Go.Proofs.YtcpobnknmegkmaaGreatDoor
namespace Go.Proofs.YtcpobnknmegkmaaGreatDoor
open Go.RowKit
set_option linter.unusedVariables false
set_option linter.unusedSimpArgs false
namespace Fd
/-- Feeds, without what they tell behind a day. -/
def keepTo (day : Int) (l : List (Int × Int)) : List (Int × Int) := l.filter fun s => decide (s.1 ≤ day)
def toldF (F : List Feed) (day : Int) : List Feed := F.map fun f => (f.1, keepTo day f.2)
theorem filter_take (d : Int) : ∀ l : List (Int × Int), l.Pairwise (fun a b => a.1 < b.1) → keepTo d l = l.take (keepTo d l).length
  | [], _ => rfl
  | a :: r, h => by
    obtain ⟨h1, h2⟩ := List.pairwise_cons.1 h
    have ih := filter_take d r h2
    unfold keepTo at ih ⊢
    by_cases ha : a.1 ≤ d
    · rw [List.filter_cons_of_pos (by simpa using ha), List.length_cons, List.take_succ_cons, ← ih]
    · rw [List.filter_cons_of_neg (by simpa using ha)]
      have : r.filter (fun s => decide (s.1 ≤ d)) = [] := by
        rw [List.filter_eq_nil_iff]
        intro b hb
        have := h1 b hb
        simp
        omega
      rw [this]
      rfl
theorem rise_pairs {l : List (Int × Int)} (h : Rise l) : l.Pairwise (fun a b => a.1 < b.1) := by
  rw [List.pairwise_iff_getElem]
  intro i j hi hj hij
  have := h.2 j i hij hj
  rwa [stampAt_eq' (List.getElem?_eq_getElem hi), stampAt_eq' (List.getElem?_eq_getElem hj)] at this
theorem keep_at {l : List (Int × Int)} (h : Rise l) (d : Int) (k : Nat) (hk : k < (keepTo d l).length) : (keepTo d l)[k]? = l[k]? := by
  have e := filter_take d l (rise_pairs h)
  rw [e, List.getElem?_take_of_lt hk]
theorem keep_le (d : Int) (l : List (Int × Int)) : (keepTo d l).length ≤ l.length := List.length_filter_le _ _
/-- Which ones are kept: those up to the day. -/
theorem keep_day {l : List (Int × Int)} (h : Rise l) (d : Int) {k : Nat} {s : Int × Int} (hs : l[k]? = some s) : s.1 ≤ d ↔ k < (keepTo d l).length := by
  constructor
  · intro hd
    apply Decidable.byContradiction
    intro hk
    have hm : s ∈ keepTo d l := List.mem_filter.2 ⟨List.mem_of_getElem? hs, by simpa using hd⟩
    obtain ⟨j, hj⟩ := List.getElem?_of_mem hm
    have hjl := (List.getElem?_eq_some_iff.1 hj).1
    rw [keep_at h d j hjl] at hj
    have hkl := (List.getElem?_eq_some_iff.1 hs).1
    have := h.2 k j (by omega) hkl
    rw [stampAt_eq' hj, stampAt_eq' hs] at this
    omega
  · intro hk
    rw [← keep_at h d k hk] at hs
    have := (List.mem_filter.1 (List.mem_of_getElem? hs)).2
    simpa using this
theorem upto_keep {l : List (Int × Int)} (h : Rise l) {d d' : Int} (hd : d' ≤ d) : upto (keepTo d l) d' = upto l d' := by
  obtain ⟨i, h0, h1, h2⟩ := lower_ex h (d' + 1) l.length (Nat.le_refl _)
  have e : upto l d' = i := by
    unfold upto
    refine countP_here _ i _ h0 (fun k hk => ?_) (fun k h3 h4 => ?_)
    · rw [Bool.not_eq_true', decide_eq_false_iff_not]; have := of_decide_eq_true (h1 k hk); omega
    · rw [Bool.not_eq_false', decide_eq_true_eq]; have := of_decide_eq_false (h2 k h3 h4); omega
  have hi : i ≤ (keepTo d l).length := by
    rcases hi0 : i with _ | j
    · omega
    · have hj : j < l.length := by omega
      have := (keep_day h d (stampAt_some hj)).1 (by have := of_decide_eq_true (h1 j (by omega)); omega)
      omega
  rw [e]
  unfold upto
  have at_eq'' : ∀ k, k < (keepTo d l).length → stampAt (keepTo d l) k = stampAt l k := fun k hk => by unfold stampAt; rw [keep_at h d k hk]
  refine countP_here _ i _ hi (fun k hk => ?_) (fun k h3 h4 => ?_)
  · rw [at_eq'' k (by omega), Bool.not_eq_true', decide_eq_false_iff_not]; have := of_decide_eq_true (h1 k hk); omega
  · have := keep_le d l
    rw [at_eq'' k h4, Bool.not_eq_false', decide_eq_true_eq]; have := of_decide_eq_false (h2 k h3 (by omega)); omega
theorem told_at (F : List Feed) (day : Int) (i : Nat) : (toldF F day)[i]? = (F[i]?).map fun f => (f.1, keepTo day f.2) := by unfold toldF; rw [List.getElem?_map]
theorem told_place (F : List Feed) (day : Int) (s : ByteArray) : place (toldF F day) s = place F s := by
  unfold place
  rw [show (toldF F day).length = F.length by unfold toldF; rw [List.length_map]]
  apply List.countP_congr
  intro i hi
  rw [List.mem_range] at hi
  have : (at' (toldF F day) i).1 = (at' F i).1 := by
    unfold at'
    rw [told_at, List.getElem?_eq_getElem hi]
    rfl
  rw [this]
theorem told_tells {F : List Feed} (h : Ok F) (day : Int) (s : ByteArray) {n : Int} (hn : 0 ≤ n) : tells (toldF F day) day s n = tells F day s n := by
  unfold tells
  rw [told_place, told_at]
  cases hp : F[place F s]? with
  | none => rfl
  | some f =>
    simp only [Option.map_some]
    have hr := rise_of h hp
    rw [upto_keep hr (by omega : day - n ≤ day)]
    by_cases hf : f.1 = s
    · rw [if_pos hf, if_pos hf]
      by_cases hu : upto f.2 (day - n) = 0
      · rw [if_pos hu, if_pos hu]
      · rw [if_neg hu, if_neg hu]
        congr 2
        unfold stampAt
        have h1 := upto_le (keepTo day f.2) (day - n)
        rw [upto_keep hr (by omega : day - n ≤ day)] at h1
        rw [keep_at hr day _ (by omega)]
    · rw [if_neg hf, if_neg hf]
theorem told_ok {F : List Feed} (h : Ok F) (day : Int) : Ok (toldF F day) := by
  refine ⟨by unfold toldF; rw [List.length_map]; exact h.1, fun i f hf => ?_⟩
  rw [told_at] at hf
  obtain ⟨g, hg, rfl⟩ := Option.map_eq_some_iff.1 hf
  have ok := h.2 i g hg
  have hr := rise_of h hg
  refine ⟨ok.name, fun j hj x hx => ?_, Nat.le_trans (keep_le day g.2) ok.len, fun k s hs => ?_⟩
  · rw [told_at] at hx
    obtain ⟨y, hy, rfl⟩ := Option.map_eq_some_iff.1 hx
    exact ok.rise j hj y hy
  · have hk := (List.getElem?_eq_some_iff.1 hs).1
    rw [keep_at hr day k hk] at hs
    have hst := ok.stamps k s hs
    refine ⟨hst.day, fun j hj u hu => ?_, hst.num⟩
    have hj2 := (List.getElem?_eq_some_iff.1 hu).1
    rw [keep_at hr day j hj2] at hu
    exact hst.up j hj u hu
end Fd
theorem told_alike {F : List Fd.Feed} (h : Fd.Ok F) (day : Int) : Dn.Alike (Dn.eyes F day) (Dn.eyes (Fd.toldF F day) day) := ⟨rfl, fun s n hn => (Fd.told_tells h day s hn).symm⟩
end Go.Proofs.YtcpobnknmegkmaaGreatDoor
namespace Go.Proofs.YtcpobnknmegkmaaGreatDoor
open Go.RowKit
open Rw
set_option linter.unusedVariables false
set_option linter.unusedSimpArgs false
set_option maxRecDepth 100000
def pair2 (x : Int × Int) : List Value := [.int .i64 x.1, .int .i64 x.2]
def StampRow (base : Nat) (w : World) (v : Value) (l : List (Int × Int)) : Prop := w.ownsRow base 43 2 v l.length (l.flatMap pair2)
abbrev FQ : Type := ByteArray × Value
def fq2 (x : FQ) : List Value := [.string x.1, x.2]
theorem info_stamp : (Tryz.prog.info? 43).map (fun i => (i.zero, i.size, i.bytes)) = some (some (.agg #[.int .i64 0, .int .i64 0]), 2, 16) := by kernel_rfl
theorem info_feed : (Tryz.prog.info? 46).map (fun i => (i.zero, i.size, i.bytes)) = some (some (.agg #[.string ⟨#[]⟩, .slice none 0 0]), 2, 40) := by kernel_rfl
/-- Feeds in rows of the call's own. -/
def ToldRow (base : Nat) (L : List Fd.Feed) (v : Value) (W : World) : Prop := ∃ qs : List FQ, qs.length = L.length ∧ W.ownsRow base 46 2 v L.length (qs.flatMap fq2) ∧
  ∀ (j : Nat) f, L[j]? = some f → ∃ q : FQ, qs[j]? = some q ∧ q.1 = f.1 ∧ StampRow base W q.2 f.2
theorem ToldRow.nil (base : Nat) (W : World) : ToldRow base [] (.slice none 0 0) W := ⟨[], rfl, ⟨rfl, .inl ⟨rfl, rfl⟩⟩, fun j u h => by simp at h⟩
theorem own_kept {W W' : World} {b z n : Nat} {t : TypeId} {v : Value} {xs : List Value} (h : W.ownsRow b t z v n xs) (hb : Below W.heap.size W W') : W'.ownsRow b t z v n xs :=
  ⟨h.1, h.2.imp id fun ⟨g, cap, cur, e1, e2, e3, e4⟩ => ⟨g, cap, cur, e1, e2, (hb.block g (lt_of_block e3)).trans e3, e4⟩⟩
theorem ToldRow.kept {base : Nat} {L : List Fd.Feed} {v : Value} {W W' : World} (h : ToldRow base L v W) (hb : Below W.heap.size W W') : ToldRow base L v W' := by
  obtain ⟨qs, h1, h2, h3⟩ := h
  refine ⟨qs, h1, own_kept h2 hb, fun j f hj => ?_⟩
  obtain ⟨q, h4, h5, h6⟩ := h3 j f hj
  exact ⟨q, h4, h5, own_kept h6 hb⟩
theorem ToldRow.far {base : Nat} {L : List Fd.Feed} {v : Value} {W : World} (h : ToldRow base L v W) {b : Nat} (e : v.ownBlock = some b) : base ≤ b ∧ b < W.heap.size := by
  obtain ⟨qs, h1, h2, h3⟩ := h
  exact World.ownsRow.lt h2 b e
theorem append_feed {w : World} {ops : Array Oper} {rest : List Oper} {o : Oper} {a : Act} {Q : Exit → Act → World → Prop} (hgd : o.guard = none) (s x : Operand)
    (ho : o.op = .call { callee := .builtin .append, args := #[s, x], argTypes := #[35, 35] })
    (base : Nat) (v : Value) (L : List Fd.Feed) (hs : a.eval s = v) (hown : ToldRow base L v w) (f : Fd.Feed) (sv : Value) (h1c : sv.oneCell' = true) (hst : StampRow base w sv f.2) (hx : a.eval x = .slice (some ⟨w.heap.size, 0, none⟩) 1 1)
    (hbound : L.length + 1 ≤ 4000000) (hbase : base ≤ w.heap.size)
    (h : ∀ v' w', ToldRow base (L ++ [f]) v' w' → w.grownBy w' v.ownBlock → wpList Tryz.prog ops Q rest (a.put o.dst v') w') :
    wpList Tryz.prog ops Q (o :: rest) a (w.alloc (.cells #[.string f.1, sv] 46)) := by
  obtain ⟨i, hi, hz, hsz, hby⟩ := info_split info_feed
  obtain ⟨qs, h1, h2, h3⟩ := hown
  refine wpList_append_own_at _ hgd s x 35 ho base 46 i _ 2 40 Tryz.underlying35 hi hz hsz hby rfl (by decide) v L.length _ hs (World.ownsRow.alloc h2 _) ⟨w.heap.size, 0, none⟩ 1 1 (fq2 (f.1, sv)) hx rfl
    (fun j u hj => ?_) (fun u hu => ?_) (by unfold maxLen; omega) (by omega) (by simp; omega) (fun v' w' k1 k2 _ k4 => h v' w' ?_ (grown_trans (grown_of_below ((Below.refl _ _).alloc (Nat.le_refl _) _) _) k2))
  · rw [add_gen, World.cell?_alloc_new, Nat.zero_add, ← hj]
    simp [fq2]
  · simp only [fq2, List.mem_cons, List.not_mem_nil, or_false] at hu
    rcases hu with rfl | rfl
    · rfl
    · exact h1c
  · have hne : ∀ sv' l, StampRow base w sv' l → StampRow base w' sv' l := fun sv' l h => World.ownsRow.kept (World.ownsRow.alloc h _) k2 (row_ne (World.ownsRow.alloc h (.cells #[.string f.1, sv] 46)) (World.ownsRow.alloc h2 (.cells #[.string f.1, sv] 46)) (by decide))
    refine ⟨qs ++ [(f.1, sv)], by simp [h1], ?_, fun j g hj => ?_⟩
    · rw [List.length_append, List.flatMap_append]
      simpa using k1
    · by_cases hjl : j < L.length
      · rw [List.getElem?_append_left hjl] at hj
        obtain ⟨q', h4, h5, h6⟩ := h3 j g hj
        exact ⟨q', by rw [List.getElem?_append_left (by omega)]; exact h4, h5, hne _ _ h6⟩
      · have hj' := (List.getElem?_eq_some_iff.1 hj).1
        simp only [List.length_append, List.length_cons, List.length_nil] at hj'
        obtain rfl : j = L.length := by omega
        have : f = g := by simpa using hj
        subst this
        exact ⟨(f.1, sv), by rw [← h1]; simp, rfl, hne _ _ hst⟩
theorem step_stamp {w : World} {ops : Array Oper} {o : Oper} {a : Act} {K : Act → World → Prop} {Q : Exit → Act → World → Prop} {E : Prop} (hgd : o.guard = none) (s x : Operand)
    (ho : o.op = .call { callee := .builtin .append, args := #[s, x], argTypes := #[44, 44] })
    (base : Nat) (v : Value) (L : List (Int × Int)) (hs : a.eval s = v) (hown : StampRow base w v L) (y : Int × Int) (hx : a.eval x = .slice (some ⟨w.heap.size, 0, none⟩) 1 1) (hbound : L.length + 1 ≤ 4000000) (hbase : base ≤ w.heap.size)
    (h : ∀ v' w', StampRow base w' v' (L ++ [y]) → w.grownBy w' v.ownBlock → K (a.put o.dst v') w') :
    if Region.wanted o (yielded ops a.tmps) = true then Oper.wp Tryz.prog o a (w.alloc (.cells #[.int .i64 y.1, .int .i64 y.2] 43)) K Q else E := by
  have hw : Region.wanted o (yielded ops a.tmps) = true := by simp [Region.wanted, hgd]
  rw [if_pos hw]
  obtain ⟨i, hi, hz, hsz, hby⟩ := info_split info_stamp
  refine wp_append_own _ s x 44 ho base 43 i _ 2 16 Tryz.underlying44 hi hz hsz hby rfl (by decide) v L.length _ hs (World.ownsRow.alloc hown _) ⟨w.heap.size, 0, none⟩ 1 1 (pair2 y) hx rfl
    (fun j u hj => ?_) (fun u hu => ?_) (by unfold maxLen; omega) (by omega) (by simp; omega) (fun v' w' h1 h2 _ => h v' w' ?_ (grown_trans (grown_of_below ((Below.refl _ _).alloc (Nat.le_refl _) _) _) h2))
  · rw [add_gen, World.cell?_alloc_new, Nat.zero_add, ← hj]
    simp [pair2]
  · simp only [pair2, List.mem_cons, List.not_mem_nil, or_false] at hu
    rcases hu with rfl | rfl <;> rfl
  · show World.ownsRow w' base _ 2 v' (L ++ [y]).length ((L ++ [y]).flatMap pair2)
    rw [List.length_append, List.flatMap_append]
    simpa using h1
theorem StampRow.stamps {base : Nat} {W : World} {v : Value} {L : List (Int × Int)} (h : StampRow base W v L) (hI : ∀ x ∈ L, I64 x.1 ∧ I64 x.2) : StampsAt W v L := by
  obtain ⟨h0, ⟨rfl, hz⟩ | ⟨g, cap, cur, rfl, h2, h3, h4, h5, h6, h7⟩⟩ := id h
  · obtain rfl : L = [] := List.eq_nil_of_length_eq_zero hz
    exact ⟨none, 0, rfl, ⟨Nat.le_refl _, Nat.zero_le _⟩, fun i x hx => by simp at hx⟩
  · obtain ⟨p, c, e, hc⟩ := rowcells_of (f := pair2) (fun _ => rfl) h
    cases e
    refine ⟨_, _, rfl, ⟨h4, h5⟩, fun i x hx => ?_⟩
    obtain ⟨g', e', hg, hj⟩ := hc i x hx
    cases e'
    exact ⟨g, 0, rfl, hg, ⟨hj 0 _ (by omega) rfl, hj 1 _ (by omega) rfl⟩, hI x (List.mem_of_getElem? hx)⟩
theorem ToldRow.feeds {base : Nat} {W : World} {v : Value} {L : List Fd.Feed} (h : ToldRow base L v W) (hI : ∀ f ∈ L, f.1.size ≤ 2000000 ∧ ∀ x ∈ f.2, I64 x.1 ∧ I64 x.2) : FeedsAt W v L := by
  obtain ⟨qs, h1, h2, h3⟩ := h
  obtain ⟨h0, ⟨rfl, hz⟩ | ⟨g, cap, cur, rfl, k2, k3, k4, k5, k6, k7⟩⟩ := id h2
  · obtain rfl : L = [] := List.eq_nil_of_length_eq_zero hz
    exact ⟨none, 0, rfl, ⟨Nat.le_refl _, Nat.zero_le _⟩, fun i x hx => by simp at hx⟩
  · rw [← h1] at h2
    obtain ⟨p, c, e, hc⟩ := rowcells_of (f := fq2) (fun _ => rfl) h2
    obtain ⟨rfl, rfl⟩ : some (⟨g, 0, none⟩ : Addr) = p ∧ cap = c := by simpa using e
    refine ⟨_, _, rfl, ⟨k4, k5⟩, fun i x hx => ?_⟩
    obtain ⟨q, hq, hq1, hst⟩ := h3 i x hx
    obtain ⟨g', e', hg, hj⟩ := hc i q hq
    cases e'
    have hi := hI x (List.mem_of_getElem? hx)
    exact ⟨g, 0, q.2, rfl, hg, ⟨by rw [← hq1]; exact hj 0 _ (by omega) rfl, hj 1 _ (by omega) rfl⟩, hst.stamps hi.2, hi.1⟩
/-- The box of the feed that is being made. -/
structure ToldIn (ws : World) (name : ByteArray) (l : List (Int × Int)) (sv : Value) (W : World) : Prop where
  bel : Below ws.heap.size ws W
  box : W.heap[ws.heap.size]? = some (.cells #[.string name, sv] 46 (0, 0))
  row : StampRow (ws.heap.size + 1) W sv l
theorem ToldIn.below {ws : World} {name : ByteArray} {l : List (Int × Int)} {sv : Value} {W W' : World} (h : ToldIn ws name l sv W) (b : Below W.heap.size W W') : ToldIn ws name l sv W' :=
  ⟨h.bel.trans (b.mono h.bel.size), box_below b h.box, own_kept h.row b⟩
theorem ToldIn.push {ws : World} {name : ByteArray} {l : List (Int × Int)} {sv v' : Value} {W W' : World} (h : ToldIn ws name l sv W) {y : Int × Int} (row : StampRow (ws.heap.size + 1) W' v' (l ++ [y])) (g : W.grownBy W' sv.ownBlock) : ToldIn ws name (l ++ [y]) v' (W'.setCell ⟨ws.heap.size, 1, none⟩ v') := by
  have hlt := lt_of_block h.box
  have hb : W'.heap[ws.heap.size]? = some (.cells #[.string name, sv] 46 (0, 0)) := (g.block _ hlt fun e => own_lt h.row (Nat.lt_succ_self _) e.symm).trans h.box
  refine ⟨?_, heap_setCell_same W' ws.heap.size 1 _ _ _ hb, World.ownsRow.kept row (grown_set W' ws.heap.size 1 v') (.inr (own_lt row (Nat.lt_succ_self _)))⟩
  have h1 : Below ws.heap.size ws W' := h.bel.trans ⟨g.os, g.tape, g.output, g.size, fun k hk => g.block k (Nat.lt_trans hk hlt) fun e => own_lt h.row (Nat.lt_succ_of_lt hk) e.symm⟩
  exact h1.setCell (p := ⟨ws.heap.size, 1, none⟩) (Nat.le_refl _) v'
theorem below_row2 {base z n : Nat} {w W W' : World} {t : TypeId} {v : Value} {xs : List Value} (h : Below base w W) (row : W.ownsRow base t z v n xs) (hb : base ≤ W.heap.size) (g : W.grownBy W' v.ownBlock) : Below base w W' :=
  h.trans ⟨g.os, g.tape, g.output, g.size, fun k hk => g.block k (Nat.lt_of_lt_of_le hk hb) fun e => own_lt row hk e.symm⟩
end Go.Proofs.YtcpobnknmegkmaaGreatDoor
namespace Go.Proofs.YtcpobnknmegkmaaGreatDoor
open Go.RowKit
open Rw
set_option linter.unusedVariables false
set_option linter.unusedSimpArgs false
set_option maxRecDepth 100000
def NmAt (W : World) (v : Value) (N : List ByteArray) : Prop := (v = .slice none 0 0 ∧ N = []) ∨ ∃ b off c, v = .slice (some ⟨b, off, none⟩) N.length c ∧ (N.length ≤ c ∧ c ≤ maxLen) ∧ b < W.heap.size ∧ ∀ (i : Nat) x, N[i]? = some x → W.cell? ⟨b, off + i, none⟩ = some (.string x)
theorem NmAt.below {W W' : World} {v : Value} {N : List ByteArray} (h : NmAt W v N) (B : Below W.heap.size W W') : NmAt W' v N := by
  rcases h with h | ⟨b, off, c, e, hl, hb, h⟩
  · exact .inl h
  · exact .inr ⟨b, off, c, e, hl, Nat.lt_of_lt_of_le hb B.size, fun i x hx => cell_below B hb (h i x hx)⟩
theorem NmAt.nil (W : World) : NmAt W (.slice none 0 0) [] := .inl ⟨rfl, rfl⟩
def NmRow (base : Nat) (w : World) (v : Value) (N : List ByteArray) : Prop := w.ownsRow base 9 1 v N.length (N.map .string)
theorem info_str : (Tryz.prog.info? 9).map (fun i => (i.zero, i.size, i.bytes)) = some (some (.string ⟨#[]⟩), 1, 16) := by kernel_rfl
def NmSrc (W : World) (v : Value) (M : List ByteArray) : Prop := (v = .slice none 0 0 ∧ M = []) ∨ ∃ ad c, v = .slice (some ad) M.length c ∧ ∀ j u, (M.map Value.string)[j]? = some u → W.cell? (ad.add j) = some u
theorem NmSrc.below {W W' : World} {v : Value} {M : List ByteArray} (h : NmSrc W v M) (B : Below W.heap.size W W') : NmSrc W' v M := by
  rcases h with h | ⟨ad, c, e, hc⟩
  · exact .inl h
  · exact .inr ⟨ad, c, e, fun j u hj => keep_all B _ _ (hc j u hj)⟩
theorem NmRow.at' {base : Nat} {W : World} {v : Value} {N : List ByteArray} (h : NmRow base W v N) : NmAt W v N := by
  obtain ⟨h0, ⟨rfl, hz⟩ | ⟨g, cap, cur, rfl, h2, h3, h4, h5, h6, h7⟩⟩ := h
  · exact .inl ⟨rfl, List.length_eq_zero_iff.1 hz⟩
  · refine .inr ⟨g, 0, cap, rfl, ⟨h4, h5⟩, lt_of_block h3, fun i x hx => ?_⟩
    have hj : (N.map Value.string)[i]? = some (.string x) := by rw [List.getElem?_map, hx]; rfl
    have := take_at h7 hj
    rw [Nat.zero_add]
    simp only [World.cell?, h3]
    rw [Array.getElem?_toList] at this
    simpa using this
/-- Appending strings. -/
theorem exec_strs {o : Oper} {a : Act} (w : World) (s x : Operand) (ho : o.op = .call { callee := .builtin .append, args := #[s, x], argTypes := #[40, 40] })
    (base : Nat) (v : Value) (L M : List ByteArray) (hs : a.eval s = v) (hown : NmRow base w v L) (xv : Value) (hx : a.eval x = xv) (hM : NmSrc w xv M) (hbound : L.length + M.length ≤ 1000000) (hbase : base ≤ w.heap.size) :
    ∃ v' w', (execOp a.eval o).run Tryz.prog w = .ok (.value v') w' ∧ NmRow base w' v' (L ++ M) ∧ w.grownBy w' v.ownBlock := by
  obtain ⟨i, hi, hz, hsz, hby⟩ := info_split info_str
  subst hx
  rcases hM with ⟨hxe, rfl⟩ | ⟨ad, c, hxe, hM⟩
  · have hr := run_append_owned_none (P := Tryz.prog) (w := w) base 40 o.type 9 i 1 Tryz.underlying40 hi v L.length (L.map .string) hown
    refine ⟨v, w, ?_, by rw [List.append_nil]; exact hown, grown_refl _ _⟩
    unfold execOp
    simp only [ho, resolve, invoke, builtin, Sem.run_bind, Sem.run_pure, Result.andThen_ok, List.map_toArray, List.map_cons, List.map_nil, hs, hxe, hr]
  · obtain ⟨v', w', hr, h2, h3, -, -⟩ := run_append_own_at (P := Tryz.prog) w base 40 o.type 9 i _ 1 16 Tryz.underlying40 hi hz hsz hby rfl (by decide) v L.length (L.map .string) hown ad M.length c (M.map .string) (by simp) hM
      (fun u hu => by obtain ⟨x, -, rfl⟩ := List.mem_map.1 hu; rfl) (by unfold maxLen; omega) (by omega) hbase
    refine ⟨v', w', ?_, ?_, h3⟩
    · unfold execOp
      simp only [ho, resolve, invoke, builtin, Sem.run_bind, Sem.run_pure, Result.andThen_ok, List.map_toArray, List.map_cons, List.map_nil, hs, hxe, hr]
    · show World.ownsRow w' base _ 1 v' (L ++ M).length ((L ++ M).map .string)
      rw [List.length_append, List.map_append]
      exact h2
theorem step_strs {w : World} {ops : Array Oper} {o : Oper} {a : Act} {K : Act → World → Prop} {Q : Exit → Act → World → Prop} {E : Prop} (hgd : o.guard = none) (s x : Operand) (ho : o.op = .call { callee := .builtin .append, args := #[s, x], argTypes := #[40, 40] })
    (base : Nat) (v : Value) (L M : List ByteArray) (hs : a.eval s = v) (hown : NmRow base w v L) (xv : Value) (hx : a.eval x = xv) (hM : NmSrc w xv M) (hbound : L.length + M.length ≤ 1000000) (hbase : base ≤ w.heap.size)
    (h : ∀ v' w', NmRow base w' v' (L ++ M) → w.grownBy w' v.ownBlock → K (a.put o.dst v') w') :
    if Region.wanted o (yielded ops a.tmps) = true then Oper.wp Tryz.prog o a w K Q else E := by
  have hw : Region.wanted o (yielded ops a.tmps) = true := by simp [Region.wanted, hgd]
  rw [if_pos hw]
  obtain ⟨v', w', hr, h2, h3⟩ := exec_strs w s x ho base v L M hs hown xv hx hM hbound hbase
  simp only [Oper.wp, hr, Oper.upon]
  exact h v' w' h2 h3
theorem make_strs (W : World) (n : Nat) (hn : n ≤ 1000000) : (Instr.makeSlice 40 (.int .i64 0) (.int .i64 (n : Int))).run Tryz.prog W = .ok (.slice (some ⟨W.heap.size, 0, none⟩) 0 n) (W.alloc (.cells (madeCells (Value.string ⟨#[]⟩).cells (n * 1)) 9)) := by
  obtain ⟨i0, q1, q2, q3, q4⟩ := info_split info_str
  have := run_make (P := Tryz.prog) (w := W) 40 9 i0 _ Tryz.underlying40 q1 q2 .i64 .i64 0 (n : Int) (by omega) (by omega) (by rw [q4]; omega) (by omega)
  rw [q3, Int.toNat_natCast] at this
  exact this
theorem made_strs (W : World) (n : Nat) (hn : n ≤ 1000000) : NmRow W.heap.size (W.alloc (.cells (madeCells (Value.string ⟨#[]⟩).cells (n * 1)) 9)) (.slice (some ⟨W.heap.size, 0, none⟩) 0 n) [] :=
  World.ownsRow_made W _ n (Nat.le_refl _) (by unfold maxLen; omega) (by simp [madeCells])
theorem size_str (W : World) : (sizeOf (Tryz.prog.elem 40)).run Tryz.prog W = .ok 1 W := by
  obtain ⟨i, hi, hz, hsz, hby⟩ := info_split info_str
  have he : Tryz.prog.elem 40 = 9 := by kernel_rfl
  rw [he]
  simp [sizeOf, typeInfo, hi, hsz]
theorem slice_lo {W0 : World} {v : Value} {N : List ByteArray} (h : NmAt W0 v N) {k : Nat} (hk : k ≤ N.length) : ∃ lo, (∀ W, (Instr.sliceAt 40 v none (some (.int .i64 (k : Int))) none).run Tryz.prog W = .ok lo W) ∧ NmSrc W0 lo (N.take k) := by
  rcases h with ⟨rfl, rfl⟩ | ⟨b, off, c, rfl, ⟨h1, h2⟩, hb, hc⟩
  · obtain rfl : k = 0 := by simpa using hk
    refine ⟨.slice none 0 0, fun W => ?_, .inl ⟨rfl, rfl⟩⟩
    rw [run_sliceAt_slice (h := Tryz.underlying40), run_slice_h (ht := Tryz.underlying40) (h0 := by omega) (h2 := by omega), size_str]
    rfl
  · refine ⟨.slice (some ⟨b, off, none⟩) k c, fun W => ?_, .inr ⟨⟨b, off, none⟩, c, by rw [List.length_take, Nat.min_eq_left hk], fun j u hj => ?_⟩⟩
    · rw [run_sliceAt_slice (h := Tryz.underlying40), run_slice_h (ht := Tryz.underlying40) (h0 := by omega) (h2 := by omega), size_str]
      simp [Result.andThen, sliced, add_gen]
    · rw [List.getElem?_map] at hj
      obtain ⟨x, hx, rfl⟩ := Option.map_eq_some_iff.1 hj
      have hjk : j < k := by have := (List.getElem?_eq_some_iff.1 hx).1; rw [List.length_take] at this; omega
      rw [List.getElem?_take, if_pos hjk] at hx
      rw [add_gen]
      exact hc j x hx
theorem slice_hi {W0 : World} {v : Value} {N : List ByteArray} (h : NmAt W0 v N) {k : Nat} (hk : k ≤ N.length) : ∃ hi, (∀ W, (Instr.sliceAt 40 v (some (.int .i64 (k : Int))) none none).run Tryz.prog W = .ok hi W) ∧ NmSrc W0 hi (N.drop k) := by
  rcases h with ⟨rfl, rfl⟩ | ⟨b, off, c, rfl, ⟨h1, h2⟩, hb, hc⟩
  · obtain rfl : k = 0 := by simpa using hk
    refine ⟨.slice none 0 0, fun W => ?_, .inl ⟨rfl, rfl⟩⟩
    rw [run_sliceAt_slice (h := Tryz.underlying40), run_slice_l (ht := Tryz.underlying40) (h0 := by omega) (h1 := by omega), size_str]
    rfl
  · refine ⟨.slice (if c = k then some ⟨b, off, none⟩ else some ⟨b, off + k, none⟩) (N.length - k) (c - k), fun W => ?_, .inr ⟨if c = k then ⟨b, off, none⟩ else ⟨b, off + k, none⟩, c - k, by rw [List.length_drop]; split <;> rfl, fun j u hj => ?_⟩⟩
    · rw [run_sliceAt_slice (h := Tryz.underlying40), run_slice_l (ht := Tryz.underlying40) (h0 := by omega) (h1 := by omega), size_str]
      simp [Result.andThen, sliced, add_gen]
    · rw [List.getElem?_map] at hj
      obtain ⟨x, hx, rfl⟩ := Option.map_eq_some_iff.1 hj
      have hjk : j < N.length - k := by have := (List.getElem?_eq_some_iff.1 hx).1; rw [List.length_drop] at this; omega
      rw [List.getElem?_drop] at hx
      rw [if_neg (by omega), add_gen, Nat.add_assoc]
      exact hc (k + j) x hx
namespace Dn
theorem ins_at {s : ByteArray} : ∀ {N : List ByteArray} {k : Nat}, (∀ j x, j < k → N[j]? = some x → Fd.lt x s = true) → k ≤ N.length → (∀ x, N[k]? = some x → Fd.lt x s = false) →
    ins s N = (if N[k]? = some s then N else N.take k ++ s :: N.drop k)
  | [], k, _, hk, _ => by
    obtain rfl : k = 0 := by simpa using hk
    simp [ins]
  | y :: r, 0, _, _, h => by
    have h1 := h y rfl
    rw [ins, h1]
    simp only [Bool.false_eq_true, if_false, List.getElem?_cons_zero, Option.some.injEq, List.take_zero, List.nil_append, List.drop_zero]
  | y :: r, k + 1, h1, hk, h2 => by
    have hy := h1 0 y (by omega) rfl
    have := ins_at (s := s) (N := r) (k := k) (fun j x hj hx => h1 (j + 1) x (by omega) (by simpa using hx)) (by simpa using hk) (fun x hx => h2 x (by simpa using hx))
    rw [ins, if_pos hy, this]
    simp only [List.getElem?_cons_succ]
    split
    · rfl
    · simp
end Dn
theorem NmAt.form {W : World} {v : Value} {N : List ByteArray} (h : NmAt W v N) : ∃ p c, v = .slice p N.length c ∧ ∀ (i : Nat) x, N[i]? = some x → ∃ b off, p = some ⟨b, off, none⟩ ∧ b < W.heap.size ∧ W.cell? ⟨b, off + i, none⟩ = some (.string x) := by
  rcases h with ⟨rfl, rfl⟩ | ⟨b, off, c, rfl, -, hb, hc⟩
  · exact ⟨none, 0, rfl, fun i x hx => by simp at hx⟩
  · exact ⟨_, _, rfl, fun i x hx => ⟨b, off, rfl, hb, hc i x hx⟩⟩
end Go.Proofs.YtcpobnknmegkmaaGreatDoor
namespace Go.Proofs.YtcpobnknmegkmaaGreatDoor
open Go.RowKit
open Rw
set_option linter.unusedVariables false
set_option linter.unusedSimpArgs false
set_option maxRecDepth 100000
theorem toList_ne {x s : ByteArray} (h : ¬ x = s) : (x.toList == s.toList) = false := by
  rw [beq_eq_false_iff_ne]
  intro e
  rw [ByteArray.toList_eq, ByteArray.toList_eq] at e
  apply h
  cases x
  cases s
  simp only [ByteArray.mk.injEq]
  exact Array.toList_inj.1 e
theorem wpAct_strs {Fact : World → Prop} {l : List Oper} {i : Nat} {K : Act → World → Prop} {o : Oper} {a : Act} {w : World} (s x : Operand) (hoi : l[i]? = some o) (hw : Region.wanted o (yielded l.toArray a.tmps) = true) (ho : o.op = .call { callee := .builtin .append, args := #[s, x], argTypes := #[40, 40] })
    (base : Nat) (v : Value) (L M : List ByteArray) (hs : a.eval s = v) (hown : NmRow base w v L) (xv : Value) (hx : a.eval x = xv) (hM : NmSrc w xv M) (hbound : L.length + M.length ≤ 1000000) (hbase : base ≤ w.heap.size)
    (h : ∀ v' w', NmRow base w' v' (L ++ M) → w.grownBy w' v.ownBlock → Fact w' ∧ K (a.put o.dst v') w') : wpAct Tryz.prog l Fact i K a w := by
  obtain ⟨v', w', hr, h2, h3⟩ := exec_strs w s x ho base v L M hs hown xv hx hM hbound hbase
  exact wpAct_val hoi hw hr (h v' w' h2 h3).1 (h v' w' h2 h3).2
theorem below_rowN {base z n : Nat} {w W W' : World} {t : TypeId} {v : Value} {xs : List Value} (h : Below base w W) (row : W.ownsRow base t z v n xs) (hb : base ≤ W.heap.size) (g : W.grownBy W' v.ownBlock) : Below base w W' :=
  h.trans ⟨g.os, g.tape, g.output, g.size, fun k hk => g.block k (Nat.lt_of_lt_of_le hk hb) fun e => own_lt row hk e.symm⟩
theorem nm_one (W : World) (s : ByteArray) : NmSrc (W.alloc (.cells #[.string s] 9)) (.slice (some ⟨W.heap.size, 0, none⟩) 1 1) [s] := by
  refine .inr ⟨⟨W.heap.size, 0, none⟩, 1, rfl, fun j u hj => ?_⟩
  rw [add_gen, World.cell?_alloc_new, Nat.zero_add, ← hj]
  simp
theorem NmRow.alloc {base : Nat} {W : World} {v : Value} {N : List ByteArray} (h : NmRow base W v N) (o : Obj) : NmRow base (W.alloc o) v N := World.ownsRow.alloc h o
theorem NmRow.less {base b : Nat} {W : World} {v : Value} {N : List ByteArray} (h : NmRow base W v N) (hb : b ≤ base) : NmRow b W v N := ⟨h.1, h.2.imp id fun ⟨g, cap, cur, e1, e2, e3⟩ => ⟨g, cap, cur, e1, Nat.le_trans hb e2, e3⟩⟩
set_option maxHeartbeats 8000000 in
theorem refWith_any (N : List ByteArray) (s : ByteArray) (v : Value) (w : World) (hv : NmAt w v N) (hN : N.length ≤ 100000) :
    Calls Tryz.prog 31 #[v, .string s] w fun e w' => Below w.heap.size w w' ∧ ∃ v', e = .returned v' ∧ NmAt w' v' (Dn.ins s N) := by
  have HV := hid' hv
  have HN := hid' hN
  obtain ⟨p, c, rfl, hc⟩ := hv.form
  have HC := hid' hc
  have hbig : (N.length : Int) ≤ 100000 := by omega
  clear hc hN hv
  go_enter Tryz.func31, Tryz.ntmps31
  go_upto_block 0 with (fail)
  go_cut [5] (fun kv wx => ∃ k : Nat, kv = .int .i64 (k : Int) ∧ k ≤ N.length ∧ Hid ((∀ j x, j < k → N[j]? = some x → Fd.lt x s = true) ∧ (∀ x, N[k]? = some x → Fd.lt x s = false)) ∧ wx = w)
  case first =>
    go_wp2_with fail
    go_loopw [5] (fun kv wr => ∃ k : Nat, kv = .int .i64 (k : Int) ∧ k ≤ N.length ∧ Hid (∀ j x, j < k → N[j]? = some x → Fd.lt x s = true) ∧ wr = w) (fun kv _ => N.length - (intOf kv).toNat)
    case atStart => exact ⟨0, rfl, Nat.zero_le _, hid' (fun j x h => by omega), rfl⟩
    case round =>
      obtain ⟨k, rfl, hk, HJ, rfl⟩ := hrel
      by_cases hkn : k < N.length
      · obtain ⟨x, hx⟩ : ∃ x, N[k]? = some x := ⟨_, List.getElem?_eq_getElem hkn⟩
        obtain ⟨b, off, rfl, hb, r0⟩ := HC.out k x hx
        have j1 : (0 : Int) ≤ (k : Int) := by omega
        have j2 : (k : Int) < (N.length : Int) := by omega
        have hiw : IntKind.i64.wrap ((k : Int) + 1) = (k : Int) + 1 := IntWalk.i64_in _ (by omega)
        have HX := hid' hx
        have HKN := hid' hkn
        clear hx hkn
        cases hlt : Op.bytesLess x.toList s.toList with
        | true =>
          have HNX := hid' (show ∀ j y, j < k + 1 → N[j]? = some y → Fd.lt y s = true from fun j y hj hy => by
            rcases (by omega : j < k ∨ j = k) with h | rfl
            · exact HJ.out j y h hy
            · obtain rfl : x = y := Option.some.inj (HX.out.symm.trans hy)
              exact hlt)
          go_wp2_with fail
          go_roundw
          case rel => exact ⟨k + 1, by go_num, by have := HKN.out; omega, HNX, by first | rfl | trivial⟩
          case measure => simp only [intOf]; have := HKN.out; omega
        | false =>
          have HNX := hid' (And.intro HJ.out (show ∀ y, N[k]? = some y → Fd.lt y s = false from fun y hy => by
              obtain rfl : x = y := Option.some.inj (HX.out.symm.trans hy)
              exact hlt))
          go_wp2_with fail
          go_meet
          exact ⟨k, rfl, hk, HNX, by first | rfl | trivial⟩
      · obtain rfl : k = N.length := by omega
        have g0 : decide (N.length < N.length) = false := by simp
        have HNX := hid' (And.intro HJ.out (show ∀ y, N[N.length]? = some y → Fd.lt y s = false from fun y hy => by simp at hy))
        clear hkn
        go_wp2_with fail
        go_meet
        exact ⟨N.length, rfl, hk, HNX, by first | rfl | trivial⟩
  case rest =>
    obtain ⟨k, rfl, hk, HK, rfl⟩ := hcut
    by_cases hkn : k < N.length
    · obtain ⟨x, hx⟩ : ∃ x, N[k]? = some x := ⟨_, List.getElem?_eq_getElem hkn⟩
      obtain ⟨b, off, rfl, hb, r0⟩ := HC.out k x hx
      have j1 : (0 : Int) ≤ (k : Int) := by omega
      have j2 : (k : Int) < (N.length : Int) := by omega
      have HX := hid' hx
      clear hx hkn
      by_cases hxs : x = s
      · subst hxs
        have HE := hid' (show Dn.ins x N = N by rw [Dn.ins_at HK.out.1 hk HK.out.2, if_pos HX.out])
        go_wp2_with fail
        go_ret
        exact ⟨Below.refl _ _, _, rfl, by rw [HE.out]; exact HV.out⟩
      · have g1 : (x.toList == s.toList) = false := toList_ne hxs
        have HE := hid' (show Dn.ins s N = N.take k ++ s :: N.drop k by rw [Dn.ins_at HK.out.1 hk HK.out.2, if_neg (by rw [HX.out]; simpa using hxs)])
        clear hxs
        have hlw : IntKind.i64.wrap ((N.length : Int) + 1) = (N.length : Int) + 1 := IntWalk.i64_in _ (by omega)
        obtain ⟨lo, hlo, HLO0⟩ := slice_lo HV.out hk
        obtain ⟨hi, hhi, HHI0⟩ := slice_hi HV.out hk
        have HLO := hid' HLO0
        have HHI := hid' HHI0
        clear HLO0 HHI0
        have hmk : ∀ W : World, (Instr.makeSlice 40 (.int .i64 0) (.int .i64 ((N.length : Int) + 1))).run Tryz.prog W = .ok (.slice (some ⟨W.heap.size, 0, none⟩) 0 (N.length + 1)) (W.alloc (.cells (madeCells (Value.string ⟨#[]⟩).cells ((N.length + 1) * 1)) 9)) := fun W => make_strs W (N.length + 1) (by have := HN.out; omega)
        have HD := hid' (Below.refl wc.heap.size wc).drew
        have HMB := hid' ((Below.refl wc.drew.heap.size wc.drew).alloc (Nat.le_refl _) (.cells (madeCells (Value.string ⟨#[]⟩).cells ((N.length + 1) * 1)) 9))
        have HMD := hid' (made_strs wc.drew (N.length + 1) (by have := HN.out; omega))
        go_upto_region 6 with (fail)
        refine wp_region_plan (fun W => True) (.quiet 0 (.quiet 1 (.quiet 2 (.quiet 4 (.quiet 5 (.quiet 6 (.act 3 (.act 7 (.quiet 8 .nil))))))))) (by kernel_rfl) (by kernel_rfl) (by kernel_rfl) trivial ?_
        apply wpPlan_quiet (ho := rfl)
        · rfl
        · intro W hW
          first | (go_simp; done) | (go_simp; with_reducible rfl)
        simp only [Act.put, List.setIfInBounds_toArray, List.set_cons_zero, List.set_cons_succ]
        apply wpPlan_quiet (ho := rfl)
        · rfl
        · intro W hW
          first | (go_simp; done) | (go_simp; with_reducible rfl)
        simp only [Act.put, List.setIfInBounds_toArray, List.set_cons_zero, List.set_cons_succ]
        apply wpPlan_quiet (ho := rfl)
        · rfl
        · intro W hW
          first | (go_simp; done) | (go_simp; with_reducible rfl)
        simp only [Act.put, List.setIfInBounds_toArray, List.set_cons_zero, List.set_cons_succ]
        apply wpPlan_quiet (ho := rfl)
        · rfl
        · intro W hW
          first | (go_simp; done) | (go_simp; with_reducible rfl)
        simp only [Act.put, List.setIfInBounds_toArray, List.set_cons_zero, List.set_cons_succ]
        apply wpPlan_quiet (ho := rfl)
        · rfl
        · intro W hW
          first | (go_simp; done) | (go_simp; with_reducible rfl)
        simp only [Act.put, List.setIfInBounds_toArray, List.set_cons_zero, List.set_cons_succ]
        apply wpPlan_quiet (ho := rfl)
        · rfl
        · intro W hW
          first | (go_simp; done) | (go_simp; with_reducible rfl)
        simp only [Act.put, List.setIfInBounds_toArray, List.set_cons_zero, List.set_cons_succ]
        refine wpPlan_act ?_
        refine wpAct_val (v := .slice (some ⟨wc.drew.heap.size, 0, none⟩) 0 (N.length + 1)) (w' := wc.drew.alloc (.cells (madeCells (Value.string ⟨#[]⟩).cells ((N.length + 1) * 1)) 9)) rfl ?_ ?_ trivial ?_
        · rfl
        · go_simp
        simp only [Act.put, List.setIfInBounds_toArray, List.set_cons_zero, List.set_cons_succ]
        have hb2 := HD.out.trans (HMB.out.mono HD.out.size)
        have HB2 := hid' hb2
        clear hb2
        obtain ⟨w2, hw2⟩ : ∃ w2, w2 = wc.drew.alloc (.cells (madeCells (Value.string ⟨#[]⟩).cells ((N.length + 1) * 1)) 9) := ⟨_, rfl⟩
        rw [← hw2] at HMB HMD HB2 ⊢
        obtain ⟨mb, hmb⟩ : ∃ mb, mb = wc.drew.heap.size := ⟨_, rfl⟩
        rw [← hmb] at HMB HMD ⊢
        have HLE := hid' (show wc.heap.size ≤ mb by rw [hmb]; exact HD.out.size)
        have HMS := hid' (show mb ≤ w2.heap.size by rw [hmb]; exact HMB.out.size)
        clear hw2 hmb
        refine wpPlan_act ?_
        refine wpAct_strs _ _ rfl (by rfl) rfl mb _ [] (N.take k) (by rfl) HMD.out lo (by rfl) (HLO.out.below HB2.out) (by have := HN.out; rw [List.length_take]; simp; omega) HMS.out ?_
        intro v3 w3 hrow3 hg3
        refine ⟨trivial, ?_⟩
        simp only [Act.put, List.setIfInBounds_toArray, List.set_cons_zero, List.set_cons_succ]
        apply wpPlan_quiet (ho := rfl)
        · rfl
        · intro W hW
          first | (go_simp; done) | (go_simp; with_reducible rfl)
        simp only [Act.put, List.setIfInBounds_toArray, List.set_cons_zero, List.set_cons_succ]
        refine wpPlan_nil ?_
        rw [List.nil_append] at hrow3
        have HB3 := hid' (below_rowN HB2.out (HMD.out.less HLE.out) HB2.out.size hg3)
        have HS3 := hid' (Nat.le_trans HMS.out hg3.size)
        have HR4 := hid' (hrow3.alloc (.cells #[.string s] 9))
        have HO4 := hid' (nm_one w3 s)
        have ba := (Below.refl w3.heap.size w3).alloc (Nat.le_refl _) (.cells #[.string s] 9)
        have HB4 := hid' (HB3.out.trans (ba.mono HB3.out.size))
        have HS4 := hid' (Nat.le_trans HS3.out ba.size)
        clear ba hg3 hrow3 hmk hlo HMB HMD HB2
        go_upto_region 8 with (first | (refine wpList_step (fun K hK => ?_); refine step_strs rfl _ _ (by rfl) mb v3 (N.take k) [s] (by rfl) HR4.out _ (by rfl) HO4.out (by have := HN.out; rw [List.length_take]; simp; omega) HS4.out ?_; intro v5 w5 h5 g5; have HB5 := hid' (below_rowN HB4.out (HR4.out.less HLE.out) HB4.out.size g5); have HS5 := hid' (Nat.le_trans HS4.out g5.size); have HR5 := hid' h5; clear h5 g5; refine hK _ _ ?_; clear hK K))
        clear HR4 HO4 HB4 HB3 HS3 HS4
        go_wp2_with (first | (refine wpList_step (fun K hK => ?_); refine step_strs rfl _ _ (by rfl) mb v5 (N.take k ++ [s]) (N.drop k) (by rfl) HR5.out hi (by rfl) (HHI.out.below HB5.out) (by have := HN.out; rw [List.length_append, List.length_take, List.length_drop]; simp; omega) HS5.out ?_; intro v6 w6 h6 g6; have HB6 := hid' (below_rowN HB5.out (HR5.out.less HLE.out) HB5.out.size g6); have HR6 := hid' h6; clear h6 g6; refine hK _ _ ?_; clear hK K))
        go_ret
        refine ⟨HB6.out, v6, rfl, ?_⟩
        have h := HR6.out.at'
        rw [HE.out]
        rw [List.append_assoc, List.singleton_append] at h
        exact h
    · obtain rfl : k = N.length := by omega
      have g0 : decide (N.length < N.length) = false := by simp
      have HE := hid' (show Dn.ins s N = N.take N.length ++ s :: N.drop N.length by rw [Dn.ins_at HK.out.1 hk HK.out.2, if_neg (by simp)])
      clear hkn
      have hlw : IntKind.i64.wrap ((N.length : Int) + 1) = (N.length : Int) + 1 := IntWalk.i64_in _ (by omega)
      obtain ⟨lo, hlo, HLO0⟩ := slice_lo HV.out hk
      obtain ⟨hi, hhi, HHI0⟩ := slice_hi HV.out hk
      have HLO := hid' HLO0
      have HHI := hid' HHI0
      clear HLO0 HHI0
      have hmk : ∀ W : World, (Instr.makeSlice 40 (.int .i64 0) (.int .i64 ((N.length : Int) + 1))).run Tryz.prog W = .ok (.slice (some ⟨W.heap.size, 0, none⟩) 0 (N.length + 1)) (W.alloc (.cells (madeCells (Value.string ⟨#[]⟩).cells ((N.length + 1) * 1)) 9)) := fun W => make_strs W (N.length + 1) (by have := HN.out; omega)
      have HD := hid' (Below.refl wc.heap.size wc).drew
      have HMB := hid' ((Below.refl wc.drew.heap.size wc.drew).alloc (Nat.le_refl _) (.cells (madeCells (Value.string ⟨#[]⟩).cells ((N.length + 1) * 1)) 9))
      have HMD := hid' (made_strs wc.drew (N.length + 1) (by have := HN.out; omega))
      go_upto_region 6 with (fail)
      refine wp_region_plan (fun W => True) (.quiet 0 (.quiet 1 (.quiet 2 (.quiet 4 (.quiet 5 (.quiet 6 (.act 3 (.act 7 (.quiet 8 .nil))))))))) (by kernel_rfl) (by kernel_rfl) (by kernel_rfl) trivial ?_
      apply wpPlan_quiet (ho := rfl)
      · rfl
      · intro W hW
        first | (go_simp; done) | (go_simp; with_reducible rfl)
      simp only [Act.put, List.setIfInBounds_toArray, List.set_cons_zero, List.set_cons_succ]
      apply wpPlan_quiet (ho := rfl)
      · rfl
      · intro W hW
        first | (go_simp; done) | (go_simp; with_reducible rfl)
      simp only [Act.put, List.setIfInBounds_toArray, List.set_cons_zero, List.set_cons_succ]
      apply wpPlan_quiet (ho := rfl)
      · rfl
      · intro W hW
        first | (go_simp; done) | (go_simp; with_reducible rfl)
      simp only [Act.put, List.setIfInBounds_toArray, List.set_cons_zero, List.set_cons_succ]
      apply wpPlan_quiet (ho := rfl)
      · rfl
      · intro W hW
        first | (go_simp; done) | (go_simp; with_reducible rfl)
      simp only [Act.put, List.setIfInBounds_toArray, List.set_cons_zero, List.set_cons_succ]
      apply wpPlan_quiet (ho := rfl)
      · rfl
      · intro W hW
        first | (go_simp; done) | (go_simp; with_reducible rfl)
      simp only [Act.put, List.setIfInBounds_toArray, List.set_cons_zero, List.set_cons_succ]
      apply wpPlan_quiet (ho := rfl)
      · rfl
      · intro W hW
        first | (go_simp; done) | (go_simp; with_reducible rfl)
      simp only [Act.put, List.setIfInBounds_toArray, List.set_cons_zero, List.set_cons_succ]
      refine wpPlan_act ?_
      refine wpAct_val (v := .slice (some ⟨wc.drew.heap.size, 0, none⟩) 0 (N.length + 1)) (w' := wc.drew.alloc (.cells (madeCells (Value.string ⟨#[]⟩).cells ((N.length + 1) * 1)) 9)) rfl ?_ ?_ trivial ?_
      · rfl
      · go_simp
      simp only [Act.put, List.setIfInBounds_toArray, List.set_cons_zero, List.set_cons_succ]
      have hb2 := HD.out.trans (HMB.out.mono HD.out.size)
      have HB2 := hid' hb2
      clear hb2
      obtain ⟨w2, hw2⟩ : ∃ w2, w2 = wc.drew.alloc (.cells (madeCells (Value.string ⟨#[]⟩).cells ((N.length + 1) * 1)) 9) := ⟨_, rfl⟩
      rw [← hw2] at HMB HMD HB2 ⊢
      obtain ⟨mb, hmb⟩ : ∃ mb, mb = wc.drew.heap.size := ⟨_, rfl⟩
      rw [← hmb] at HMB HMD ⊢
      have HLE := hid' (show wc.heap.size ≤ mb by rw [hmb]; exact HD.out.size)
      have HMS := hid' (show mb ≤ w2.heap.size by rw [hmb]; exact HMB.out.size)
      clear hw2 hmb
      refine wpPlan_act ?_
      refine wpAct_strs _ _ rfl (by rfl) rfl mb _ [] (N.take N.length) (by rfl) HMD.out lo (by rfl) (HLO.out.below HB2.out) (by have := HN.out; rw [List.length_take]; simp; omega) HMS.out ?_
      intro v3 w3 hrow3 hg3
      refine ⟨trivial, ?_⟩
      simp only [Act.put, List.setIfInBounds_toArray, List.set_cons_zero, List.set_cons_succ]
      apply wpPlan_quiet (ho := rfl)
      · rfl
      · intro W hW
        first | (go_simp; done) | (go_simp; with_reducible rfl)
      simp only [Act.put, List.setIfInBounds_toArray, List.set_cons_zero, List.set_cons_succ]
      refine wpPlan_nil ?_
      rw [List.nil_append] at hrow3
      have HB3 := hid' (below_rowN HB2.out (HMD.out.less HLE.out) HB2.out.size hg3)
      have HS3 := hid' (Nat.le_trans HMS.out hg3.size)
      have HR4 := hid' (hrow3.alloc (.cells #[.string s] 9))
      have HO4 := hid' (nm_one w3 s)
      have ba := (Below.refl w3.heap.size w3).alloc (Nat.le_refl _) (.cells #[.string s] 9)
      have HB4 := hid' (HB3.out.trans (ba.mono HB3.out.size))
      have HS4 := hid' (Nat.le_trans HS3.out ba.size)
      clear ba hg3 hrow3 hmk hlo HMB HMD HB2
      go_upto_region 8 with (first | (refine wpList_step (fun K hK => ?_); refine step_strs rfl _ _ (by rfl) mb v3 (N.take N.length) [s] (by rfl) HR4.out _ (by rfl) HO4.out (by have := HN.out; rw [List.length_take]; simp; omega) HS4.out ?_; intro v5 w5 h5 g5; have HB5 := hid' (below_rowN HB4.out (HR4.out.less HLE.out) HB4.out.size g5); have HS5 := hid' (Nat.le_trans HS4.out g5.size); have HR5 := hid' h5; clear h5 g5; refine hK _ _ ?_; clear hK K))
      clear HR4 HO4 HB4 HB3 HS3 HS4
      go_wp2_with (first | (refine wpList_step (fun K hK => ?_); refine step_strs rfl _ _ (by rfl) mb v5 (N.take N.length ++ [s]) (N.drop N.length) (by rfl) HR5.out hi (by rfl) (HHI.out.below HB5.out) (by have := HN.out; rw [List.length_append, List.length_take, List.length_drop]; simp; omega) HS5.out ?_; intro v6 w6 h6 g6; have HB6 := hid' (below_rowN HB5.out (HR5.out.less HLE.out) HB5.out.size g6); have HR6 := hid' h6; clear h6 g6; refine hK _ _ ?_; clear hK K))
      go_ret
      refine ⟨HB6.out, v6, rfl, ?_⟩
      have h := HR6.out.at'
      rw [HE.out]
      rw [List.append_assoc, List.singleton_append] at h
      exact h
end Go.Proofs.YtcpobnknmegkmaaGreatDoor
