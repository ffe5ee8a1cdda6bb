/- Proved: Take as a contract, at a table and at nil; SetKey and Feeds at nil. -/
import Derived.Test.YtmddaomchhigbaaGreatDoorOrcTake
import Derived.Deep.CutBlock
import Derived.Deep.DeepCutAuto
import Derived.IntWalk
namespace Go.Proofs.YtmddaomchhigbaaGreatDoor
open Go.RowKit Go.Maps
open Led Orc
set_option linter.unusedVariables false
set_option linter.unusedSimpArgs false
set_option maxRecDepth 100000
namespace Orc
/-- What Take answers: its number, its tip, the table behind it. -/
def tfCode (L : List Kn) (l : List UInt8) (today : Int) : Int := if today < 0 ∨ 73048 < today then 2 else match dec l with | none => 210 | some t => tkCode L t today
def tfTip (L : List Kn) (l : List UInt8) (today : Int) : Tip := if today < 0 ∨ 73048 < today then tip0 else match dec l with | none => tip0 | some t => if tkCode L t today = 0 then t else tip0
def tfNext (L : List Kn) (l : List UInt8) (today : Int) : List Kn := if today < 0 ∨ 73048 < today then L else match dec l with | none => L | some t => tkNext L t today
theorem tkNext_no {L : List Kn} {t : Tip} {today : Int} (h : tkCode L t today ≠ 0) : tkNext L t today = L := by
  unfold tkNext
  split
  · rfl
  · rw [if_neg h]
end Orc
theorem TabStep.after {base tb mb : Nat} {Q : List Orc.Kb} {L' : List Orc.Kn} {w W1 W2 W3 W5 : World} {rb : Nat} (h : TabAt base tb mb Q w) (B : Below w.heap.size w W1) (s : TabStep base tb mb Q L' W1 W2) (B2 : Below W2.heap.size W2 W3) (hS : SameBut W3 W5 rb) (hr : w.heap.size ≤ rb ∧ rb < W1.heap.size) : TabStep base tb mb Q L' w W5 := by
  obtain ⟨Q', e, t, o, f⟩ := s
  have hz := B.size
  have hz2 := o.size
  have hz3 := B2.size
  have hne : ∀ k, Foot tb mb Q' k → k ≠ rb := by
    intro k hk
    rcases f k hk with h1 | h1
    · have := (h.foot h1).2; omega
    · omega
  refine ⟨Q', e, (t.below B2).keep (fun k hk => hS.block k (hne k hk)), ⟨?_, ?_, ?_, ?_, fun k hk hF => ?_⟩, fun k hk => ?_⟩
  · rw [hS.os, B2.os, o.os, B.os]
  · rw [hS.tape, B2.tape, o.tape, B.tape]
  · rw [hS.output, B2.output, o.output, B.output]
  · rw [hS.size]; omega
  · rw [hS.block k (by omega), B2.block k (by omega), o.block k (by omega) hF, B.block k hk]
  · rcases f k hk with h1 | h1
    · exact .inl h1
    · exact .inr (by omega)
/-- What take leaves, as Take reads it. -/
theorem TakePost.code {base tb mb : Nat} {Q : List Orc.Kb} {l : List UInt8} {today : Int} {w W : World} {e : Ending} (h : TakePost base tb mb Q l today w e W) (hT : TabAt base tb mb Q w) (h0 : 0 < base) (hg : ErrVar w) (ht : 0 ≤ today ∧ today ≤ 73048) :
    ∃ v : Value, e = .returned (.tuple #[.agg #[.string (Orc.tfTip (Q.map (·.kn)) l today).feed, .int .i64 (Orc.tfTip (Q.map (·.kn)) l today).day, .int .i64 (Orc.tfTip (Q.map (·.kn)) l today).n, .int .i64 (Orc.tfTip (Q.map (·.kn)) l today).seq, .string (Orc.tfTip (Q.map (·.kn)) l today).tag], v]) ∧
      TabStep base tb mb Q (Orc.tfNext (Q.map (·.kn)) l today) w W ∧ ∀ W', Below W.heap.size W W' → Calls Tryz.prog 35 #[v] W' (Gives (.int .i64 (Orc.tfCode (Q.map (·.kn)) l today)) W') := by
  have hn : ¬ (today < 0 ∨ 73048 < today) := by omega
  unfold Orc.tfTip Orc.tfNext Orc.tfCode
  simp only [if_neg hn]
  rcases h with ⟨t, hd, hc, he, hs⟩ | ⟨c, b, s, hc, hw, hlo, hr, he, hb⟩
  · rw [hd]
    simp only [hc, if_true]
    exact ⟨_, he, hs, fun W' _ => code_nil W'⟩
  · have hgW : ErrVar W := hg.below hb
    have hcode : ∀ W', Below W.heap.size W W' → Calls Tryz.prog 35 #[.iface 101 (.pointer (some ⟨b, 0, none⟩))] W' (Gives (.int .i64 c) W') := fun W' hb' => code_hit W' b c s (hr.below hb') (hgW.below hb')
    rcases hw with ⟨hd, rfl⟩ | ⟨t, hd, rfl⟩
    · rw [hd]
      exact ⟨_, he, TabStep.no hT hb, hcode⟩
    · rw [hd]
      simp only [if_neg hc]
      rw [Orc.tkNext_no hc]
      exact ⟨_, he, TabStep.no hT hb, hcode⟩
def TakeOut (base tb mb : Nat) (Q : List Orc.Kb) (l : List UInt8) (today : Int) (w : World) (e : Ending) (w' : World) : Prop :=
  e = .returned (.tuple #[.agg #[.string (Orc.tfTip (Q.map (·.kn)) l today).feed, .int .i64 (Orc.tfTip (Q.map (·.kn)) l today).day, .int .i64 (Orc.tfTip (Q.map (·.kn)) l today).n, .int .i64 (Orc.tfTip (Q.map (·.kn)) l today).seq, .string (Orc.tfTip (Q.map (·.kn)) l today).tag], .int .i64 (Orc.tfCode (Q.map (·.kn)) l today)]) ∧
    TabStep base tb mb Q (Orc.tfNext (Q.map (·.kn)) l today) w w'
theorem takeBad (base tb mb : Nat) (Q : List Orc.Kb) (l : List UInt8) (today : Int) (hb : today < 0 ∨ 73048 < today) : Orc.tfCode (Q.map (·.kn)) l today = 2 ∧ Orc.tfTip (Q.map (·.kn)) l today = tip0 ∧ Orc.tfNext (Q.map (·.kn)) l today = Q.map (·.kn) := by
  unfold Orc.tfTip Orc.tfNext Orc.tfCode
  simp only [if_pos hb]
  exact ⟨trivial, trivial, trivial⟩
set_option maxHeartbeats 4000000 in
theorem takeF_any (fr : Nat × Nat × Nat) (base tb mb : Nat) (Q : List Orc.Kb) (v0 : Value) (l : List UInt8) (today : Int) (w : World) (h : TabAt base tb mb Q w) (hbase : base ≤ w.heap.size) (h0 : 0 < base) (hr : Reads0 w v0 l) (hl : l.length ≤ 100000000) (hk : Hid (Keys fr w)) (hg : ErrVar w) :
    Calls Tryz.prog 20 #[.pointer (some ⟨tb, 0, none⟩), v0, .int .i64 today] w (TakeOut base tb mb Q l today w) := by
  have HH := hid' h
  have hB0 : Below w.heap.size w (w.alloc (.cells #[.string ⟨#[]⟩, .int .i64 0, .int .i64 0, .int .i64 0, .string ⟨#[]⟩] 23)) := (Below.refl _ _).alloc (Nat.le_refl _) _
  have HTK := hid' (fun ht => take_any fr base tb mb Q v0 l today (w.alloc (.cells #[.string ⟨#[]⟩, .int .i64 0, .int .i64 0, .int .i64 0, .string ⟨#[]⟩] 23)) (h.below hB0) (Nat.le_trans hbase hB0.size) (hr.below hB0) hl (keys_below hk hB0) ht)
  have HRB := hid' (heap_alloc_new w (.cells #[.string ⟨#[]⟩, .int .i64 0, .int .i64 0, .int .i64 0, .string ⟨#[]⟩] 23))
  have HB0 := hid' hB0
  have HG := hid' (hg.below hB0)
  have H0 := hid' h0
  obtain ⟨p0, c0, rfl⟩ := hr.len
  clear h hbase hr hl hB0 hk hg h0
  by_cases ha : today < 0 ∨ 73048 < today
  · have HBAD := hid' (takeBad base tb mb Q l today ha)
    obtain ⟨c, f⟩ := block_cells HRB.out
    have r0 := c 0 _ rfl
    have r1 := c 1 _ rfl
    have r2 := c 2 _ rfl
    have r3 := c 3 _ rfl
    have r4 := c 4 _ rfl
    have f0 := f 0
    have f1 := f 1
    have f2 := f 2
    have f3 := f 3
    have f4 := f 4
    obtain ⟨rb, hrb⟩ : ∃ rb, rb = w.heap.size := ⟨_, rfl⟩
    have HLT := hid' (show w.heap.size ≤ rb ∧ rb < (w.alloc (.cells #[.string ⟨#[]⟩, .int .i64 0, .int .i64 0, .int .i64 0, .string ⟨#[]⟩] 23)).heap.size by simp; omega)
    rw [← hrb] at r0 r1 r2 r3 r4 f0 f1 f2 f3 f4
    clear c f
    rcases ha with hneg | hbig
    · have g0 : decide (today < 0) = true := decide_eq_true hneg
      clear hneg
      go_enter Tryz.func20, Tryz.ntmps20
      go_upto_region 1 with (fail)
      rw [← hrb]
      clear hrb
      generalize w.alloc (.cells #[.string ⟨#[]⟩, .int .i64 0, .int .i64 0, .int .i64 0, .string ⟨#[]⟩] 23) = W1 at *
      go_wp2_with fail
      refine bodyPost_ret (v := .tuple #[.agg #[.string ⟨#[]⟩, .int .i64 0, .int .i64 0, .int .i64 0, .string ⟨#[]⟩], .int .i64 2]) ?_ rfl ?_
      · simp [results, Tryz.results20, go_sem, r0, r1, r2, r3, r4]
      · unfold TakeOut
        rw [HBAD.out.1, HBAD.out.2.1, HBAD.out.2.2]
        exact ⟨rfl, TabStep.after HH.out HB0.out (TabStep.no (HH.out.below HB0.out) (Below.refl _ _)) (Below.refl _ _) (five_same _ _ _ _ _ _ _) HLT.out⟩
    · have g0 : decide (today < 0) = false := decide_eq_false (by omega)
      have g1 : decide (73048 < today) = true := decide_eq_true hbig
      clear hbig
      go_enter Tryz.func20, Tryz.ntmps20
      go_upto_region 1 with (fail)
      rw [← hrb]
      clear hrb
      generalize w.alloc (.cells #[.string ⟨#[]⟩, .int .i64 0, .int .i64 0, .int .i64 0, .string ⟨#[]⟩] 23) = W1 at *
      go_wp2_with fail
      refine bodyPost_ret (v := .tuple #[.agg #[.string ⟨#[]⟩, .int .i64 0, .int .i64 0, .int .i64 0, .string ⟨#[]⟩], .int .i64 2]) ?_ rfl ?_
      · simp [results, Tryz.results20, go_sem, r0, r1, r2, r3, r4]
      · unfold TakeOut
        rw [HBAD.out.1, HBAD.out.2.1, HBAD.out.2.2]
        exact ⟨rfl, TabStep.after HH.out HB0.out (TabStep.no (HH.out.below HB0.out) (Below.refl _ _)) (Below.refl _ _) (five_same _ _ _ _ _ _ _) HLT.out⟩
  · have hday : 0 ≤ today ∧ today ≤ 73048 := by omega
    have g0 : decide (today < 0) = false := decide_eq_false (by omega)
    have g1 : decide (73048 < today) = false := decide_eq_false (by omega)
    have HDAY := hid' hday
    clear ha hday
    go_enter Tryz.func20, Tryz.ntmps20
    go_wp2_with fail
    refine (HTK.out HDAY.out).mono ?_
    intro e w1 hp
    obtain ⟨v, rfl, hst, hcode⟩ := hp.code (HH.out.below HB0.out) H0.out HG.out HDAY.out
    have HC := hid' hcode
    have HST := hid' hst
    have hlt0 := lt_of_block HRB.out
    have hk1 : w1.heap[w.heap.size]? = some (.cells #[.string ⟨#[]⟩, .int .i64 0, .int .i64 0, .int .i64 0, .string ⟨#[]⟩] 23 (0, 0)) := by
      obtain ⟨_, _, _, o, _⟩ := hst
      rw [o.block _ hlt0 (fun hF => by have := (HH.out.foot hF).2; omega)]
      exact HRB.out
    have HLT1 := hid' (lt_of_block hk1)
    have HK1 := hid' hk1
    clear hp hcode hst hk1 HTK HRB
    generalize hT : Orc.tfTip (Q.map (·.kn)) l today = T at *
    generalize hD : Orc.tfCode (Q.map (·.kn)) l today = D at *
    generalize hL : Orc.tfNext (Q.map (·.kn)) l today = L at *
    go_upto_region 6 with (fail)
    have HT := hid' hT
    have HD := hid' hD
    have HL := hid' hL
    clear hT hD hL
    have hB2 : Below w1.heap.size w1 (w1.alloc (.cells #[.string T.feed, .int .i64 T.day, .int .i64 T.n, .int .i64 T.seq, .string T.tag] 23)) := (Below.refl _ _).alloc (Nat.le_refl _) _
    have hT2 := TipBox.new w1 T
    obtain ⟨xb, hxb⟩ : ∃ xb, xb = w1.heap.size := ⟨_, rfl⟩
    rw [← hxb] at hT2 ⊢
    obtain ⟨rb, hrb⟩ : ∃ rb, rb = w.heap.size := ⟨_, rfl⟩
    have HRB := hid' (show w.heap.size ≤ rb ∧ rb < (w.alloc (.cells #[.string ⟨#[]⟩, .int .i64 0, .int .i64 0, .int .i64 0, .string ⟨#[]⟩] 23)).heap.size by omega)
    have HNE := hid' (show xb ≠ rb by have := HLT1.out; omega)
    rw [← hrb] at HK1 ⊢
    have HK2 := hid' (block_kept hB2 HK1.out)
    have HB2 := hid' hB2
    generalize w1.alloc (.cells #[.string T.feed, .int .i64 T.day, .int .i64 T.n, .int .i64 T.seq, .string T.tag] 23) = W2 at *
    have HC2 := hid' (fun (W' : World) (hb : Below W2.heap.size W2 W') => HC.out W' (Below.more hB2 hb))
    have HTB := hid' (fun (W' : World) (hb : Below W2.heap.size W2 W') => (hT2.below hb).cells)
    have HRC := hid' (fun (W' : World) (hb : Below W2.heap.size W2 W') => block_cells (block_kept hb HK2.out))
    have hbx := (Below.refl W2.heap.size W2).drew
    clear hB2 hT2 hxb hrb HC HLT1 HK1 HK2 hlt0
    go_region_held3 (fun w' => w'.cell? ⟨xb, 0, none⟩ = some (.string T.feed) ∧ w'.cell? ⟨xb, 1, none⟩ = some (.int .i64 T.day) ∧ w'.cell? ⟨xb, 2, none⟩ = some (.int .i64 T.n) ∧ w'.cell? ⟨xb, 3, none⟩ = some (.int .i64 T.seq) ∧ w'.cell? ⟨xb, 4, none⟩ = some (.string T.tag)) (first | with_reducible exact ⟨(HTB.out _ hbx).1, (HTB.out _ hbx).2.1, (HTB.out _ hbx).2.2.1, (HTB.out _ hbx).2.2.2.1, (HTB.out _ hbx).2.2.2.2.1⟩ | exact ⟨five_cell HNE.out (HTB.out _ hbx).1 _ _ _ _ _, five_cell HNE.out (HTB.out _ hbx).2.1 _ _ _ _ _, five_cell HNE.out (HTB.out _ hbx).2.2.1 _ _ _ _ _, five_cell HNE.out (HTB.out _ hbx).2.2.2.1 _ _ _ _ _, five_cell HNE.out (HTB.out _ hbx).2.2.2.2.1 _ _ _ _ _⟩)
      (first | (go_at_call 35; refine (HC2.out _ hbx).mono ?_; rintro e w3 ⟨rfl, b3⟩; have hbx := Below.more hbx b3; have r0 := (HRC.out _ hbx).1 0 _ rfl; have r1 := (HRC.out _ hbx).1 1 _ rfl; have r2 := (HRC.out _ hbx).1 2 _ rfl; have r3 := (HRC.out _ hbx).1 3 _ rfl; have r4 := (HRC.out _ hbx).1 4 _ rfl; have f0 := (HRC.out _ hbx).2 0; have f1 := (HRC.out _ hbx).2 1; have f2 := (HRC.out _ hbx).2 2; have f3 := (HRC.out _ hbx).2 3; have f4 := (HRC.out _ hbx).2 4))
    all_goals
      go_wp2_with fail
      refine bodyPost_ret (v := .tuple #[.agg #[.string T.feed, .int .i64 T.day, .int .i64 T.n, .int .i64 T.seq, .string T.tag], .int .i64 D]) ?_ rfl ?_
      · simp [results, Tryz.results20, go_sem, r0, r1, r2, r3, r4]
      · unfold TakeOut
        rw [HT.out, HD.out, HL.out]
        exact ⟨rfl, TabStep.after HH.out HB0.out HST.out (Below.more HB2.out hbx) (five_same _ _ _ _ _ _ _) HRB.out⟩
/-- At nil: of a nil table there is nothing. -/
theorem takeF_nil (v0 : Value) (n : Int) (p0 : Option Addr) (c0 : Nat) (m : Nat) (hv : v0 = .slice p0 m c0) (today : Int) (w : World) :
    Calls Tryz.prog 20 #[.pointer none, v0, .int .i64 today] w (fun e w' => e = .returned (.tuple #[.agg #[.string ⟨#[]⟩, .int .i64 0, .int .i64 0, .int .i64 0, .string ⟨#[]⟩], .int .i64 1]) ∧ Below w.heap.size w w') := by
  subst hv
  have HRB := hid' (heap_alloc_new w (.cells #[.string ⟨#[]⟩, .int .i64 0, .int .i64 0, .int .i64 0, .string ⟨#[]⟩] 23))
  have HB0 := hid' (show Below w.heap.size w (w.alloc (.cells #[.string ⟨#[]⟩, .int .i64 0, .int .i64 0, .int .i64 0, .string ⟨#[]⟩] 23)) from (Below.refl _ _).alloc (Nat.le_refl _) _)
  obtain ⟨c, f⟩ := block_cells HRB.out
  have r0 := c 0 _ rfl
  have r1 := c 1 _ rfl
  have r2 := c 2 _ rfl
  have r3 := c 3 _ rfl
  have r4 := c 4 _ rfl
  have f0 := f 0
  have f1 := f 1
  have f2 := f 2
  have f3 := f 3
  have f4 := f 4
  obtain ⟨rb, hrb⟩ : ∃ rb, rb = w.heap.size := ⟨_, rfl⟩
  have HLT := hid' (show w.heap.size ≤ rb by omega)
  rw [← hrb] at r0 r1 r2 r3 r4 f0 f1 f2 f3 f4
  clear c f
  go_enter Tryz.func20, Tryz.ntmps20
  go_upto_region 1 with (fail)
  rw [← hrb]
  clear hrb HRB
  generalize w.alloc (.cells #[.string ⟨#[]⟩, .int .i64 0, .int .i64 0, .int .i64 0, .string ⟨#[]⟩] 23) = W1 at *
  go_wp2_with fail
  refine bodyPost_ret (v := .tuple #[.agg #[.string ⟨#[]⟩, .int .i64 0, .int .i64 0, .int .i64 0, .string ⟨#[]⟩], .int .i64 1]) ?_ rfl ?_
  · simp [results, Tryz.results20, go_sem, r0, r1, r2, r3, r4]
  · exact ⟨rfl, five_below HB0.out HLT.out _ _ _ _ _⟩
theorem setKey_nil (s key : ByteArray) (w : World) : Calls Tryz.prog 17 #[.pointer none, .string s, .string key] w (Ret (.int .i64 1) w) := by
  go_enter Tryz.func17, Tryz.ntmps17
  go_wp2_with fail
  go_ret
  exact ⟨rfl, rfl⟩
theorem feeds_nil (w : World) : Calls Tryz.prog 24 #[.pointer none] w (Ret (.slice none 0 0) w) := by
  go_enter Tryz.func24, Tryz.ntmps24
  go_wp2_with fail
  go_ret
  exact ⟨rfl, rfl⟩
end Go.Proofs.YtmddaomchhigbaaGreatDoor
