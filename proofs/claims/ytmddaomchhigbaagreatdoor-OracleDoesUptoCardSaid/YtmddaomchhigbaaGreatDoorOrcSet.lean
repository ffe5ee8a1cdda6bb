/- Proved: SetKey as a contract. -/
import Derived.Test.YtmddaomchhigbaaGreatDoorOrcTab2
namespace Go.Proofs.YtmddaomchhigbaaGreatDoor
open Go.RowKit Go.Maps
open Led Orc
set_option linter.unusedVariables false
set_option linter.unusedSimpArgs false
set_option maxRecDepth 100000
namespace Orc
def findK (L : List Kn) (s : ByteArray) : Option Kn := L.find? fun k => decide (k.name = s)
theorem findK_is (Q : List Kb) (s : ByteArray) : findK (Q.map (·.kn)) s = (find Q s).map (·.kn) := by
  unfold findK find
  rw [List.find?_map]
  rfl
/-- What is known of a feed, turned. -/
def updK (s : ByteArray) (k' : Kn) (k : Kn) : Kn := if k.name = s then k' else k
theorem upd_kn (s : ByteArray) (q' : Kb) (Q : List Kb) : (Q.map (upd s q')).map (·.kn) = (Q.map (·.kn)).map (updK s q'.kn) := by
  rw [List.map_map, List.map_map]
  apply List.map_congr_left
  intro x _
  simp only [Function.comp_apply, upd, updK]
  split <;> rfl
def skOk (s key : ByteArray) : Bool := Led.isName s && (decide (0 < key.size) && decide (key.size ≤ 64))
def skCode (L : List Kn) (s key : ByteArray) : Int := if skOk s key = true then (match findK L s with | some _ => 0 | none => if L.length = 64 then 215 else 0) else 210
def skNext (L : List Kn) (s key : ByteArray) : List Kn :=
  if skOk s key = true then (match findK L s with | some k => L.map (updK s { k with key := key }) | none => if L.length = 64 then L else L ++ [⟨s, key, 0, []⟩]) else L
end Orc
def TabStep (base tb mb : Nat) (Q : List Orc.Kb) (L' : List Orc.Kn) (w w' : World) : Prop :=
  ∃ Q', Q'.map (·.kn) = L' ∧ TabAt base tb mb Q' w' ∧ OnlyF (Foot tb mb Q) w w' ∧ ∀ k, Foot tb mb Q' k → Foot tb mb Q k ∨ w.heap.size ≤ k
theorem TabStep.no {base tb mb : Nat} {Q : List Orc.Kb} {w w' : World} (h : TabAt base tb mb Q w) (B : Below w.heap.size w w') : TabStep base tb mb Q (Q.map (·.kn)) w w' :=
  ⟨Q, rfl, h.below B, OnlyF.of_below B, fun k hk => .inl hk⟩
def SetPost (base tb mb : Nat) (Q : List Orc.Kb) (s key : ByteArray) (w : World) (e : Ending) (w' : World) : Prop :=
  e = .returned (.int .i64 (Orc.skCode (Q.map (·.kn)) s key)) ∧ TabStep base tb mb Q (Orc.skNext (Q.map (·.kn)) s key) w w'
theorem SetPost.bad {base tb mb : Nat} {Q : List Orc.Kb} {s key : ByteArray} {w w' : World} (h : TabAt base tb mb Q w) (hk : Orc.skOk s key = false) (B : Below w.heap.size w w') : SetPost base tb mb Q s key w (.returned (.int .i64 210)) w' := by
  have e1 : Orc.skCode (Q.map (·.kn)) s key = 210 := if_neg (by rw [hk]; simp)
  have e2 : Orc.skNext (Q.map (·.kn)) s key = Q.map (·.kn) := if_neg (by rw [hk]; simp)
  exact ⟨by rw [e1], by rw [e2]; exact TabStep.no h B⟩
theorem SetPost.full {base tb mb : Nat} {Q : List Orc.Kb} {s key : ByteArray} {w w' : World} (h : TabAt base tb mb Q w) (hk : Orc.skOk s key = true) (hf : Orc.find Q s = none) (hl : Q.length = 64) (B : Below w.heap.size w w') : SetPost base tb mb Q s key w (.returned (.int .i64 215)) w' := by
  have hfk : Orc.findK (Q.map (·.kn)) s = none := by rw [Orc.findK_is, hf]; rfl
  have e1 : Orc.skCode (Q.map (·.kn)) s key = 215 := by unfold Orc.skCode; rw [if_pos hk, hfk]; simp only []; rw [if_pos (by rw [List.length_map]; exact hl)]
  have e2 : Orc.skNext (Q.map (·.kn)) s key = Q.map (·.kn) := by unfold Orc.skNext; rw [if_pos hk, hfk]; simp only []; rw [if_pos (by rw [List.length_map]; exact hl)]
  exact ⟨by rw [e1], by rw [e2]; exact TabStep.no h B⟩
theorem skOk_parts {s key : ByteArray} (h : Orc.skOk s key = true) : Led.isName s = true ∧ 0 < key.size ∧ key.size ≤ 64 := by
  unfold Orc.skOk at h
  simpa only [Bool.and_eq_true, decide_eq_true_eq] using h
/-- A key is laid over another one. -/
theorem SetPost.over {base tb mb : Nat} {Q : List Orc.Kb} {s key : ByteArray} {w w1 : World} {q : Orc.Kb} (h : TabAt base tb mb Q w) (hk : Orc.skOk s key = true) (hf : Orc.find Q s = some q) (B : Below w.heap.size w w1) :
    SetPost base tb mb Q s key w (.returned (.int .i64 0)) (w1.setCell ⟨q.kb, 0, none⟩ (.string key)) := by
  obtain ⟨hq, hn⟩ := Orc.find_mem hf
  have hfk : Orc.findK (Q.map (·.kn)) s = some q.kn := by rw [Orc.findK_is, hf]; rfl
  have e1 : Orc.skCode (Q.map (·.kn)) s key = 0 := by unfold Orc.skCode; rw [if_pos hk, hfk]
  have e2 : Orc.skNext (Q.map (·.kn)) s key = (Q.map (·.kn)).map (Orc.updK s { q.kn with key := key }) := by unfold Orc.skNext; rw [if_pos hk, hfk]
  have h1 := h.below B
  have hq1 := h1.kn q hq
  have hfit := h.fits q hq
  obtain ⟨_, k1, k2⟩ := skOk_parts hk
  obtain ⟨u1, u2⟩ := h1.update (W' := w1.setCell ⟨q.kb, 0, none⟩ (.string key)) (q' := { q with kn := { q.kn with key := key } }) hq rfl rfl
    ⟨heap_setCell_same _ _ _ _ _ _ hq1.blk, hq1.row.same (fun g hg => Below.heap_setCell _ _ _ _ (by show g ≠ q.kb; rintro rfl; exact hq1.row.ne hq1.blk (fun _ _ e => by cases e) hg)), hq1.lo⟩ ⟨hfit.name, ⟨k1, k2⟩, hfit.seq, hfit.stamps, hfit.days⟩ (fun g hg => .inl hg) (fun k _ hk _ => Below.heap_setCell _ _ _ _ hk)
  refine ⟨by rw [e1], _, ?_, u1, ?_, fun k hk => ?_⟩
  · rw [e2, Orc.upd_kn, hn]
  · refine ⟨B.os, B.tape, B.output, by have := B.size; simpa using this, fun k hk hF => ?_⟩
    rw [Below.heap_setCell _ _ _ _ (by show k ≠ q.kb; rintro rfl; exact hF (.inr (.inr ⟨q, hq, .inl rfl⟩)))]
    exact B.block k hk
  · rcases u2 k hk with h3 | h3
    · exact .inl h3
    · exact .inr (Nat.le_trans B.size h3)
/-- A feed is added. -/
theorem SetPost.add {base tb mb : Nat} {Q : List Orc.Kb} {s key : ByteArray} {w w1 w3 : World} (h : TabAt base tb mb Q w) (hk : Orc.skOk s key = true) (hf : Orc.find Q s = none) (hl : Q.length ≠ 64) (B : Below w.heap.size w w1) (hbase : base ≤ w.heap.size)
    {D : DataW Unit} (hm1 : w1.ownsMap Tryz.prog 9 ptrElem mb Q.length D) (hsz : Maps.size D = Q.length) (hD : ∀ s : ByteArray, s.size ≤ maxLen → has D (nameK s) = (Orc.find Q s).isSome ∧ D.atKey (nameK s) .nil = datOf (Orc.find Q s))
    (hm3 : w3.ownsMap Tryz.prog 9 ptrElem mb (Q.length + 1) (D.put (nameK s) (.lit (.int .i64 (w1.heap.size : Int))))) (hg : (w1.alloc (.cells #[.string ⟨#[]⟩, .int .i64 0, .slice none 0 0] 82)).grownBy w3 (some mb)) :
    (w3.cell? ⟨w1.heap.size, 0, none⟩ = some (.string ⟨#[]⟩) ∧ w3.frozen? ⟨w1.heap.size, 0, none⟩ = false) ∧ SetPost base tb mb Q s key w (.returned (.int .i64 0)) (w3.setCell ⟨w1.heap.size, 0, none⟩ (.string key)) := by
  have hfk : Orc.findK (Q.map (·.kn)) s = none := by rw [Orc.findK_is, hf]; rfl
  have e1 : Orc.skCode (Q.map (·.kn)) s key = 0 := by unfold Orc.skCode; rw [if_pos hk, hfk]; simp only []; rw [if_neg (by rw [List.length_map]; exact hl)]
  have e2 : Orc.skNext (Q.map (·.kn)) s key = Q.map (·.kn) ++ [⟨s, key, 0, []⟩] := by unfold Orc.skNext; rw [if_pos hk, hfk]; simp only []; rw [if_neg (by rw [List.length_map]; exact hl)]
  obtain ⟨n1, k1, k2⟩ := skOk_parts hk
  have h1 := h.below B
  have hmlt : mb < w1.heap.size := hm1.lt
  have hnew := heap_alloc_new w1 (.cells #[.string ⟨#[]⟩, .int .i64 0, .slice none 0 0] 82)
  have hnew3 : w3.heap[w1.heap.size]? = some (.cells #[.string ⟨#[]⟩, .int .i64 0, .slice none 0 0] 82 (0, 0)) := (hg.block _ (by simp) (by intro e; cases e; omega)).trans hnew
  have hset := heap_setCell_same w3 w1.heap.size 0 _ _ (.string key) hnew3
  have hoth : ∀ k, k < w1.heap.size → k ≠ mb → (w3.setCell ⟨w1.heap.size, 0, none⟩ (.string key)).heap[k]? = w1.heap[k]? := by
    intro k hk hkm
    rw [Below.heap_setCell _ _ _ _ (by show k ≠ w1.heap.size; omega), hg.block k (by simp; omega) (by intro e; cases e; exact hkm rfl), Below.heap_alloc _ _ _ hk]
  have hsn : s.size ≤ maxLen := Nat.le_trans (Led.name_len n1) (by decide)
  have hm4 : (w3.setCell ⟨w1.heap.size, 0, none⟩ (.string key)).ownsMap Tryz.prog 9 ptrElem mb (Q.length + 1) (D.put (nameK s) (.lit (.int .i64 (w1.heap.size : Int)))) := by
    obtain ⟨es, clock, e3, r⟩ := hm3
    exact ⟨es, clock, (Below.heap_setCell _ _ _ _ (by show mb ≠ w1.heap.size; omega)).trans e3, r⟩
  have hl64 : Q.length < 64 := by have := h.room; omega
  obtain ⟨u1, u2⟩ := h1.add (W' := w3.setCell ⟨w1.heap.size, 0, none⟩ (.string key)) (q := ⟨⟨s, key, 0, []⟩, w1.heap.size, .slice none 0 0⟩) hf hl64 hsn
    ⟨hset, StampRow.nil _ _, Nat.le_trans hbase B.size⟩ ⟨n1, ⟨k1, k2⟩, ⟨Int.le_refl _, by show (0 : Int) ≤ 4611686018427387904; omega⟩, by simp, fun x hx => by cases hx⟩ (Nat.le_refl _) rfl ⟨D, _, hm1, hsz, hD, rfl, hm4⟩ hoth
  refine ⟨⟨(block_cells hnew3).1 0 _ rfl, (block_cells hnew3).2 0⟩, by rw [e1], _, ?_, u1, ?_, fun k hk => ?_⟩
  · rw [e2, List.map_append]; rfl
  · have hs3 := hg.size
    refine ⟨by show w3.os = _; rw [hg.os]; exact B.os, by show w3.tape = _; rw [hg.tape]; exact B.tape, by show w3.output = _; rw [hg.output]; exact B.output, by have := B.size; simp at hs3 ⊢; omega, fun k hk hF => ?_⟩
    rw [hoth k (Nat.lt_of_lt_of_le hk B.size) (by rintro rfl; exact hF (.inr (.inl rfl)))]
    exact B.block k hk
  · rcases u2 k hk with h3 | h3
    · exact .inl h3
    · exact .inr (Nat.le_trans B.size h3)
set_option maxHeartbeats 4000000 in
theorem setKey_any (base tb mb : Nat) (Q : List Orc.Kb) (s key : ByteArray) (w : World) (h : TabAt base tb mb Q w) (hbase : base ≤ w.heap.size) (hs : s.size ≤ 9223372036854775807) (hks : key.size ≤ 9223372036854775807) :
    Calls Tryz.prog 17 #[.pointer (some ⟨tb, 0, none⟩), .string s, .string key] w (SetPost base tb mb Q s key w) := by
  have HH := hid' h
  have HBS := hid' hbase
  have HIN := hid' (isName_any s w hs)
  have hks' : (key.size : Int) ≤ 9223372036854775807 := by omega
  have HSZ := hid' hs
  clear h hbase hs hks
  cases hn : Led.isName s with
  | false =>
    have HK := hid' (show Orc.skOk s key = false by unfold Orc.skOk; rw [hn]; rfl)
    rw [hn] at HIN
    clear hn
    go_enter Tryz.func17, Tryz.ntmps17
    go_wp2_with fail
    refine HIN.out.mono ?_
    rintro e w1 ⟨rfl, b1⟩
    have HB := hid' b1
    clear b1
    go_wp2_with fail
    go_ret
    exact SetPost.bad HH.out HK.out HB.out
  | true =>
    rw [hn] at HIN
    by_cases h0 : key.size = 0
    · obtain rfl := nil_of_size h0
      have HK := hid' (show Orc.skOk s ⟨#[]⟩ = false by unfold Orc.skOk; rw [hn]; rfl)
      clear hn h0
      go_enter Tryz.func17, Tryz.ntmps17
      go_wp2_with fail
      refine HIN.out.mono ?_
      rintro e w1 ⟨rfl, b1⟩
      have HB := hid' b1
      clear b1
      go_wp2_with fail
      go_ret
      exact SetPost.bad HH.out HK.out HB.out
    · have hnl : key.toList.isEmpty = false := nonempty_list (by rintro rfl; simp [ByteArray.size] at h0)
      by_cases h64 : 64 < key.size
      · have g64 : decide ((64 : Int) < (key.size : Int)) = true := by simp; omega
        have HK := hid' (show Orc.skOk s key = false by unfold Orc.skOk; rw [decide_eq_false (show ¬ key.size ≤ 64 by omega)]; simp)
        clear hn h0 h64
        go_enter Tryz.func17, Tryz.ntmps17
        go_wp2_with fail
        refine HIN.out.mono ?_
        rintro e w1 ⟨rfl, b1⟩
        have HB := hid' b1
        clear b1
        go_wp2_with fail
        go_ret
        exact SetPost.bad HH.out HK.out HB.out
      · have g64 : decide ((64 : Int) < (key.size : Int)) = false := by simp; omega
        have HK := hid' (show Orc.skOk s key = true by unfold Orc.skOk; rw [hn, decide_eq_true (show 0 < key.size by omega), decide_eq_true (show key.size ≤ 64 by omega)]; rfl)
        have hsn : s.size ≤ maxLen := Nat.le_trans (Led.name_len hn) (by decide)
        have HSN := hid' hsn
        clear hn h0 h64 hsn
        cases hf : Orc.find Q s with
        | some q =>
          have HF := hid' hf
          clear hf
          go_enter Tryz.func17, Tryz.ntmps17
          go_wp2_with fail
          refine HIN.out.mono ?_
          rintro e w1 ⟨rfl, b1⟩
          have HB := hid' b1
          have h1 := HH.out.below b1
          have hl := h1.look s HSN.out true
          rw [HF.out] at hl
          replace hl : (Instr.lookup 76 (.map (some mb)) (.string s) true).run Tryz.prog w1 = .ok (.tuple #[.pointer (some ⟨q.kb, 0, none⟩), .bool true]) w1 := hl
          have c0 := (block_cells h1.hb).1 0 _ rfl
          have k0 := (block_cells (h1.kn q (Orc.find_mem HF.out).1).blk).1 0 _ rfl
          have kf := (block_cells (h1.kn q (Orc.find_mem HF.out).1).blk).2 0
          clear b1 h1
          go_wp2_with fail
          go_ret
          exact SetPost.over HH.out HK.out HF.out HB.out
        | none =>
          have HF := hid' hf
          clear hf
          by_cases h64 : Q.length = 64
          · have g6 : ((Q.length : Int) == 64) = true := by rw [beq_iff_eq]; omega
            have HL := hid' h64
            clear h64
            go_enter Tryz.func17, Tryz.ntmps17
            go_wp2_with fail
            refine HIN.out.mono ?_
            rintro e w1 ⟨rfl, b1⟩
            have HB := hid' b1
            have h1 := HH.out.below b1
            have hl := h1.look s HSN.out true
            rw [HF.out] at hl
            replace hl : (Instr.lookup 76 (.map (some mb)) (.string s) true).run Tryz.prog w1 = .ok (.tuple #[.pointer none, .bool false]) w1 := hl
            have hlen := h1.len
            have c0 := (block_cells h1.hb).1 0 _ rfl
            clear b1 h1
            go_wp2_with fail
            go_ret
            exact SetPost.full HH.out HK.out HF.out HL.out HB.out
          · have g6 : ((Q.length : Int) == 64) = false := by rw [beq_eq_false_iff_ne]; omega
            have HL := hid' h64
            have hQl : (Q.length : Int) ≤ 64 := by have := HH.out.room; omega
            clear h64
            go_enter Tryz.func17, Tryz.ntmps17
            go_wp2_with fail
            refine HIN.out.mono ?_
            rintro e w1 ⟨rfl, b1⟩
            have HB := hid' b1
            have h1 := HH.out.below b1
            have hl := h1.look s HSN.out true
            rw [HF.out] at hl
            replace hl : (Instr.lookup 76 (.map (some mb)) (.string s) true).run Tryz.prog w1 = .ok (.tuple #[.pointer none, .bool false]) w1 := hl
            have hlen := h1.len
            have c0 := (block_cells h1.hb).1 0 _ rfl
            obtain ⟨D, hm1, hsz, hD⟩ := h1.map
            have HM := hid' hm1
            have HSD := hid' (And.intro hsz hD)
            have c1 := alloc_cell c0 (.cells #[.string ⟨#[]⟩, .int .i64 0, .slice none 0 0] 82)
            clear b1 h1 hm1 hsz hD
            go_wp2_with (refine wpList_mapUpdate_own _ rfl _ _ _ 76 rfl 9 79 (string_keyed Tryz.underlying9) Tryz.underlying76 ptrElem mb Q.length D rfl (HM.out.alloc _) (by have := HH.out.room; unfold maxLen; omega) _ _ (nameK s) rfl rfl (nameK_is s HSN.out) (.lit (.int .i64 (w1.heap.size : Int))) [] rfl (fun w3 r1 r2 => ?_); refine halt' ?_)
            have HP := hid' (SetPost.add HH.out HK.out HF.out HL.out HB.out HBS.out HM.out HSD.out.1 HSD.out.2 r1 r2)
            obtain ⟨⟨p0, pf⟩, _⟩ := HP.out
            clear r1 r2 hl hlen c0 c1
            refine hid' ?_
            go_wp2_with fail
            go_ret
            exact HP.out.2
end Go.Proofs.YtmddaomchhigbaaGreatDoor
