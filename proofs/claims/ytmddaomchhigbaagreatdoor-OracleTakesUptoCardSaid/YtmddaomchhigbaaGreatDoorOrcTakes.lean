/- Proved: the law OracleTakes: what one feed tells is taken once, and not again. -/
import Derived.Test.YtmddaomchhigbaaGreatDoorOrcTakesP
import Derived.Test.YtmddaomchhigbaaGreatDoorOrcSame
import Derived.IntWalk
namespace Go.Proofs.YtmddaomchhigbaaGreatDoor
open Go.RowKit Go.Maps
open Led Orc
set_option linter.unusedVariables false
set_option linter.unusedSimpArgs false
set_option maxRecDepth 100000
/-- Numbers that lie in a slice. -/
def IntsAt (W : World) (v : Value) (l : List Int) : Prop :=
  (l = [] ∧ v = .slice none 0 0) ∨ ∃ b off c, v = .slice (some ⟨b, off, none⟩) l.length c ∧ b < W.heap.size ∧ ∀ (i : Nat) (x : Int), l[i]? = some x → W.cell? ⟨b, off + i, none⟩ = some (.int .i64 x)
theorem IntsAt.form {W : World} {v : Value} {l : List Int} (h : IntsAt W v l) : ∃ p c, v = .slice p l.length c := by
  rcases h with ⟨rfl, rfl⟩ | ⟨b, off, c, rfl, _⟩
  · exact ⟨none, 0, rfl⟩
  · exact ⟨_, _, rfl⟩
theorem IntsAt.at {W W' : World} {p : Option Addr} {n c : Nat} {l : List Int} (h : IntsAt W (.slice p n c) l) (B : Below W.heap.size W W') {i : Nat} {x : Int} (hx : l[i]? = some x) : ∃ b off, p = some ⟨b, off, none⟩ ∧ W'.cell? ⟨b, off + i, none⟩ = some (.int .i64 x) := by
  rcases h with ⟨rfl, _⟩ | ⟨b, off, c', e, hb, hc⟩
  · simp at hx
  · obtain ⟨rfl, _⟩ := Value.slice.inj e
    exact ⟨b, off, rfl, (B.cell (p := ⟨b, off + i, none⟩) hb).trans (hc i x hx)⟩
/-- The table while the law runs. -/
structure OneFeed (base tb mb : Nat) (feed key : ByteArray) (w : World) (i n : Nat) (last : Int) (Q : List Orc.Kb) (S : List (Int × Int)) (W : World) : Prop where
  tab : TabAt base tb mb Q W
  kn : Q.map (·.kn) = [⟨feed, key, (n : Int), S⟩]
  bel : Below w.heap.size w W
  len : S.length = n
  day : last = Orc.lastDay S
  lo : -1 ≤ last ∧ last ≤ 73048
  few : n ≤ i ∧ i ≤ 100
/-- A tip more is taken. -/
theorem OneFeed.step {base tb mb : Nat} {feed key : ByteArray} {w : World} {i n : Nat} {last : Int} {Q : List Orc.Kb} {S : List (Int × Int)} {W W' : World} (h : OneFeed base tb mb feed key w i n last Q S W) (hbase : base = w.heap.size) {d v : Int} (hi : i < 100) (hd : last < d ∧ d ≤ 73048)
    (hs : TabStep base tb mb Q [⟨feed, key, (n : Int) + 1, S ++ [(d, v)]⟩] W W') : ∃ Q', OneFeed base tb mb feed key w (i + 1) (n + 1) d Q' (S ++ [(d, v)]) W' := by
  obtain ⟨Q', e, t, o, f⟩ := hs
  refine ⟨Q', t, by rw [e]; simp, h.bel.trans (o.to_below (fun k hk => by rw [← hbase]; exact (h.tab.foot hk).1) h.bel.size), by rw [List.length_append, h.len]; rfl, by rw [Orc.lastDay_snoc], by have := h.lo; omega, by have := h.few; omega⟩
theorem OneFeed.below {base tb mb : Nat} {feed key : ByteArray} {w : World} {i n : Nat} {last : Int} {Q : List Orc.Kb} {S : List (Int × Int)} {W W' : World} (h : OneFeed base tb mb feed key w i n last Q S W) (B : Below W.heap.size W W') : OneFeed base tb mb feed key w i n last Q S W' :=
  ⟨h.tab.below B, h.kn, Below.more h.bel B, h.len, h.day, h.lo, h.few⟩
theorem OneFeed.more {base tb mb : Nat} {feed key : ByteArray} {w : World} {i n : Nat} {last : Int} {Q : List Orc.Kb} {S : List (Int × Int)} {W : World} (h : OneFeed base tb mb feed key w i n last Q S W) (hi : i < 100) : OneFeed base tb mb feed key w (i + 1) n last Q S W :=
  ⟨h.tab, h.kn, h.bel, h.len, h.day, h.lo, by have := h.few; omega⟩
theorem OneFeed.again {base tb mb : Nat} {feed key : ByteArray} {w : World} {i n : Nat} {last : Int} {Q : List Orc.Kb} {S : List (Int × Int)} {W W' : World} (h : OneFeed base tb mb feed key w i n last Q S W) (hbase : base = w.heap.size)
    (hs : TabStep base tb mb Q [⟨feed, key, (n : Int), S⟩] W W') : ∃ Q', OneFeed base tb mb feed key w i n last Q' S W' := by
  obtain ⟨Q', e, t, o, f⟩ := hs
  exact ⟨Q', t, e, h.bel.trans (o.to_below (fun k hk => by rw [← hbase]; exact (h.tab.foot hk).1) h.bel.size), h.len, h.day, h.lo, h.few⟩
/-- The one feed, as it is read. -/
theorem one_seen {Q : List Orc.Kb} {w W : World} {v : Value} {q : List (ByteArray × Value)} {feed key : ByteArray} {n : Int} {S : List (Int × Int)} (hkn : Q.map (·.kn) = [⟨feed, key, n, S⟩]) (hS : S.length ≤ 4096) (h : FdAt Q w q v W) (hq : (q.map fun p => p.1.data.toList) = (namesOf Q).mergeSort leB) :
    ∃ b off c p c', v = .slice (some ⟨b, off, none⟩) 1 c ∧ W.cell? ⟨b, off, none⟩ = some (.string feed) ∧ W.cell? ⟨b, off + 1, none⟩ = some (.slice p S.length c') := by
  have hn : namesOf Q = [feed.data.toList] := by
    have : namesOf Q = (Q.map (·.kn)).map fun k => k.name.data.toList := by unfold namesOf; rw [List.map_map]; rfl
    rw [this, hkn]; rfl
  rw [hn, List.mergeSort_singleton] at hq
  have hl := congrArg List.length hq
  rw [List.length_map] at hl
  match q, hl, hq, h with
  | [(f', sv)], _, hq, h =>
    obtain rfl : f' = feed := ba_ext (by simpa using hq)
    have hst : ∀ s, (stampsOf Q s).length ≤ 4096 := by
      intro s
      unfold stampsOf
      cases hf : Orc.find Q s with
      | none => exact Nat.zero_le _
      | some k =>
        have hm : k.kn ∈ Q.map (·.kn) := List.mem_map_of_mem (Orc.find_mem hf).1
        rw [hkn] at hm
        show k.kn.stamps.length ≤ 4096
        rw [List.mem_singleton.1 hm]
        exact hS
    have hsf : stampsOf Q f' = S := by
      have h1 := Orc.findK_is Q f'
      rw [hkn, show Orc.findK [⟨f', key, n, S⟩] f' = some ⟨f', key, n, S⟩ from Orc.findK_one ⟨f', key, n, S⟩] at h1
      unfold stampsOf
      cases hf : Orc.find Q f' with
      | none => rw [hf] at h1; cases h1
      | some k => rw [hf] at h1; exact congrArg Orc.Kn.stamps (Option.some.inj h1).symm
    obtain ⟨p, c, rfl, _, hc⟩ := FdAt.seen h (by show 1 ≤ 64; omega) hst
    obtain ⟨b, off, sv', rfl, _, c0, c1, ⟨p', c', rfl, _⟩⟩ := hc 0 (f', stampsOf Q f') rfl
    rw [Nat.zero_mul, Nat.add_zero] at c0 c1
    rw [hsf] at c1
    exact ⟨b, off, c, p', c', rfl, c0, c1⟩
set_option maxHeartbeats 8000000 in
theorem law_takes (fr : Nat × Nat × Nat) (feed key : ByteArray) (v2 v3 : Value) (days vals : List Int) (w : World) (hfs : feed.size ≤ 10000000) (hks : key.size ≤ 10000000) (hd : IntsAt w v2 days) (hv : IntsAt w v3 vals) (hk : Hid (Keys fr w)) (hg : ErrVar w) :
    Calls Tryz.prog 6 #[.string feed, .string key, v2, v3] w (True1 w) := by
  have HFS := hid' hfs
  have HKS := hid' hks
  have HD := hid' hd
  have HV := hid' hv
  have HG := hid' hg
  obtain ⟨p2, c2, rfl⟩ := hd.form
  obtain ⟨p3, c3, rfl⟩ := hv.form
  have g1 : decide ((key.size : Int) < 1) = decide (key.size < 1) := by congr 1; exact propext (by omega)
  have g2 : decide (64 < (key.size : Int)) = decide (64 < key.size) := by congr 1; exact propext (by omega)
  clear hd hv hg hfs hks
  go_enter Tryz.func6, Tryz.ntmps6
  go_wp2_with fail
  refine (shown_any fr w hk HG.out).mono ?_
  rintro e w1 ⟨rfl, b1⟩
  have HB1 := hid' b1
  have HP1 := hid' ((HG.out.below b1).pos)
  clear b1
  go_wp2_with fail
  refine (tabNew_any w1).mono ?_
  rintro e w2 ⟨tb, mb, rfl, ht2, b2⟩
  have HT2 := hid' ht2
  have HB2 := hid' b2
  clear ht2 b2
  go_wp2_with fail
  refine (setKey_any w1.heap.size tb mb [] feed key w2 HT2.out HB2.out.size (by have := HFS.out; omega) (by have := HKS.out; omega)).mono ?_
  rintro e w3 ⟨rfl, hst⟩
  have HST := hid' hst
  clear hst
  go_wp2_with fail
  refine (refIsName_any feed w3 (by have := HFS.out; omega)).mono ?_
  rintro e w4 ⟨rfl, rfl⟩
  have HB3 := hid' (show Below w.heap.size w w4 from by
    obtain ⟨Q, _, _, o, _⟩ := HST.out
    have b12 := Below.more HB1.out HB2.out
    exact b12.trans (o.to_below (fun k hk => Nat.le_trans HB1.out.size (HT2.out.foot hk).1) b12.size))
  cases hok : Orc.skOk feed key with
  | false =>
    have HC := hid' (Orc.one_bad hok)
    have hcase : Led.isName feed = false ∨ (Led.isName feed = true ∧ key.size < 1) ∨ (Led.isName feed = true ∧ ¬ key.size < 1 ∧ 64 < key.size) := by
      unfold Orc.skOk at hok
      cases hn : Led.isName feed with
      | false => exact .inl rfl
      | true =>
        rw [hn, Bool.true_and, Bool.and_eq_false_iff] at hok
        rcases hok with h | h
        · exact .inr (.inl ⟨rfl, by have := of_decide_eq_false h; omega⟩)
        · have := of_decide_eq_false h
          by_cases h1 : key.size < 1
          · exact .inr (.inl ⟨rfl, h1⟩)
          · exact .inr (.inr ⟨rfl, h1, by omega⟩)
    rw [HC.out]
    clear hok
    rcases hcase with h1 | ⟨h1, h2⟩ | ⟨h1, h2, h3⟩
    · rw [h1]
      go_wp2_with fail
      go_ret
      exact ⟨rfl, HB3.out⟩
    · rw [h1]
      rw [decide_eq_true h2] at g1
      clear h2 h1
      go_wp2_with fail
      go_ret
      exact ⟨rfl, HB3.out⟩
    · rw [h1]
      rw [decide_eq_false h2] at g1
      rw [decide_eq_true h3] at g2
      clear h3 h2 h1
      go_wp2_with fail
      go_ret
      exact ⟨rfl, HB3.out⟩
  | true =>
    obtain ⟨hn, hk1, hk2⟩ := skOk_parts hok
    have hst := HST.out
    replace hst : TabStep w1.heap.size tb mb [] [⟨feed, key, 0, []⟩] w2 w4 := by rw [← (Orc.one_set hok).2]; exact hst
    rw [(Orc.one_set hok).1, hn]
    obtain ⟨Q3, e3, t3, o3, _⟩ := hst
    have HO := hid' (show OneFeed w1.heap.size tb mb feed key w1 0 0 (-1) Q3 [] w4 from ⟨t3, e3, HB2.out.trans (o3.to_below (fun k hk => (HT2.out.foot hk).1) HB2.out.size), rfl, rfl, by omega, by omega⟩)
    have HN := hid' hn
    have g3 : ¬ key = ByteArray.empty := by rintro rfl; exact absurd hk1 (by decide)
    have g4 : decide (key = ByteArray.empty) = false := decide_eq_false g3
    replace g1 : decide ((key.size : Int) < 1) = false := decide_eq_false (by omega)
    replace g2 : decide (64 < (key.size : Int)) = false := decide_eq_false (by omega)
    clear g3 hok hn hk1 hk2 e3 t3 o3 HST HT2 HB2 HB3
    go_wp2_with fail
    go_loopw [13, 14, 15] (fun lv nv iv wr => ∃ (i n : Nat) (last : Int) (Q : List Orc.Kb) (S : List (Int × Int)), iv = .int .i64 (i : Int) ∧ nv = .int .i64 (n : Int) ∧ lv = .int .i64 last ∧ Hid (OneFeed w1.heap.size tb mb feed key w1 i n last Q S wr)) (fun _ _ iv _ => 100 - (intOf iv).toNat)
    case atStart => exact ⟨0, 0, -1, Q3, [], rfl, rfl, rfl, HO⟩
    case round =>
      obtain ⟨i, n, last, Q, S, rfl, rfl, rfl, HF⟩ := hrel
      have HBW := hid' (Below.more HB1.out HF.out.bel)
      by_cases hin : i < days.length ∧ i < vals.length ∧ i < 100
      · obtain ⟨h1, h2, h3⟩ := hin
        obtain ⟨d, hd⟩ : ∃ d, days[i]? = some d := ⟨_, List.getElem?_eq_getElem h1⟩
        obtain ⟨v, hv⟩ : ∃ v, vals[i]? = some v := ⟨_, List.getElem?_eq_getElem h2⟩
        obtain ⟨bd, od, rfl, cd⟩ := HD.out.at (Below.more HB1.out HF.out.bel) hd
        obtain ⟨bv, ov, rfl, cv⟩ := HV.out.at (Below.more HB1.out HF.out.bel) hv
        have g5 : decide ((i : Int) < (days.length : Int)) = true := decide_eq_true (by omega)
        have g6 : decide ((i : Int) < (vals.length : Int)) = true := decide_eq_true (by omega)
        have g7 : decide ((i : Int) < 100) = true := decide_eq_true (by omega)
        have j1 : (0 : Int) ≤ (i : Int) := by omega
        have j2 : (i : Int) < (days.length : Int) := by omega
        have j3 : (i : Int) < (vals.length : Int) := by omega
        have wi : IntKind.i64.wrap ((i : Int) + 1) = (i : Int) + 1 := IntWalk.i64_in _ (by omega)
        by_cases hsk : d ≤ last ∨ 73048 < d ∨ v < -1000000000000000 ∨ 1000000000000000 < v
        · have HS2 := hid' (HF.out.more h3)
          have hcase : decide (d ≤ last) = true ∨ (decide (d ≤ last) = false ∧ decide (73048 < d) = true) ∨ (decide (d ≤ last) = false ∧ decide (73048 < d) = false ∧ decide (v < -1000000000000000) = true) ∨ (decide (d ≤ last) = false ∧ decide (73048 < d) = false ∧ decide (v < -1000000000000000) = false ∧ decide (1000000000000000 < v) = true) := by
            by_cases a1 : d ≤ last
            · exact .inl (decide_eq_true a1)
            · by_cases a2 : 73048 < d
              · exact .inr (.inl ⟨decide_eq_false a1, decide_eq_true a2⟩)
              · by_cases a3 : v < -1000000000000000
                · exact .inr (.inr (.inl ⟨decide_eq_false a1, decide_eq_false a2, decide_eq_true a3⟩))
                · exact .inr (.inr (.inr ⟨decide_eq_false a1, decide_eq_false a2, decide_eq_false a3, decide_eq_true (by omega)⟩))
          clear hsk hd hv h1 h2
          rcases hcase with b1 | ⟨b1, b2⟩ | ⟨b1, b2, b3⟩ | ⟨b1, b2, b3, b4⟩
          all_goals go_wp2_with fail
          all_goals go_roundw
          all_goals first
            | exact ⟨i + 1, n, last, Q, S, by go_num, rfl, rfl, HS2⟩
            | (simp [intOf]; omega)
        · obtain ⟨b1, b2, b3, b4⟩ : decide (d ≤ last) = false ∧ decide (73048 < d) = false ∧ decide (v < -1000000000000000) = false ∧ decide (1000000000000000 < v) = false := ⟨decide_eq_false (by omega), decide_eq_false (by omega), decide_eq_false (by omega), decide_eq_false (by omega)⟩
          have HDL := hid' (show last < d ∧ d ≤ 73048 by omega)
          have HVL := hid' (show -1000000000000000 ≤ v ∧ v ≤ 1000000000000000 by omega)
          have HDR := hid' (show 0 ≤ d ∧ d ≤ 73048 by have := HF.out.lo; omega)
          have HNR := hid' (show 0 ≤ (n : Int) ∧ (n : Int) ≤ 1000000 by have := HF.out.few; omega)
          have H3 := hid' h3
          have HSI := hid' (Orc.one_take (key := key) (S := S) HN.out HDR.out HVL.out HNR.out (by rw [← HF.out.day]; exact HDL.out.1) (by rw [HF.out.len]; have := HF.out.few; omega))
          have HAG := hid' (Orc.one_again (key := key) (S := S ++ [(d, v)]) HN.out HDR.out HVL.out HNR.out)
          have HFT := hid' (show Orc.Fits ⟨feed, d, v, (n : Int) + 1, ⟨#[]⟩⟩ from ⟨Nat.le_trans (Led.name_len HN.out) (by decide), Nat.zero_le _, (show -9223372036854775808 ≤ d ∧ d ≤ 9223372036854775807 by have := HDR.out; omega), (show -9223372036854775808 ≤ v ∧ v ≤ 9223372036854775807 by have := HVL.out; omega), (show -9223372036854775808 ≤ (n : Int) + 1 ∧ (n : Int) + 1 ≤ 9223372036854775807 by have := HNR.out; omega)⟩)
          have wn : IntKind.i64.wrap ((n : Int) + 1) = (n : Int) + 1 := IntWalk.i64_in _ (by have := HNR.out; omega)
          clear hsk hd hv h1 h2
          go_wp2_with fail
          refine (signed_any ⟨feed, d, v, (n : Int) + 1, ⟨#[]⟩⟩ key wr HFT.out (by have := HKS.out; omega)).mono ?_
          rintro e w5 ⟨bv5, rfl, o5, b5⟩
          have HO5 := hid' o5
          have HF5 := hid' (HF.out.below b5)
          have HLN := hid' (show (Orc.encOf (Orc.tagged ⟨feed, d, v, (n : Int) + 1, ⟨#[]⟩⟩ key)).1.length ≤ 100000000 by
            rw [encOf_yes (tagged_right (core_mk HN.out HDR.out HVL.out (by have := HNR.out; omega)) key)]
            exact Nat.le_trans (Orc.enc_len (Orc.tagged_fits HFT.out _)) (by omega))
          generalize hL : (Orc.encOf (Orc.tagged ⟨feed, d, v, (n : Int) + 1, ⟨#[]⟩⟩ key)).1 = L at *
          obtain ⟨p5, c5, rfl⟩ := o5.reads.len
          clear o5 b5 cd cv hL b1 b2 b3 b4
          go_wp2_with fail
          refine (takeF_any fr w1.heap.size tb mb Q _ L d w5 HF5.out.tab HF5.out.bel.size HP1.out (Or.inl HO5.out.reads) HLN.out (keys_below hk (Below.more HB1.out HF5.out.bel)) (HG.out.below (Below.more HB1.out HF5.out.bel))).mono ?_
          rintro e w6 ⟨rfl, hs6⟩
          rw [HF5.out.kn] at hs6 ⊢
          rw [HSI.out.2] at hs6
          rw [HSI.out.1]
          obtain ⟨Q6, HF6⟩ := HF5.out.step rfl H3.out HDL.out hs6
          obtain ⟨_, _, _, o6, _⟩ := hs6
          have HO6 := hid' (HO5.out.only o6 (fun k hk => (HF.out.tab.foot hk).2))
          clear o6
          generalize hT6 : Orc.tfTip _ _ _ = T6 at *
          have hbt : Below w6.heap.size w6 (w6.alloc (.cells #[.string T6.feed, .int .i64 T6.day, .int .i64 T6.n, .int .i64 T6.seq, .string T6.tag] 23)) := (Below.refl _ _).alloc (Nat.le_refl _) _
          have HF7 := hid' (HF6.below hbt)
          have HO7 := hid' (HO6.out.below hbt)
          clear hT6 hbt HF6 HF5 HO5
          go_upto_region 17 with (fail)
          generalize w6.alloc (.cells #[.string T6.feed, .int .i64 T6.day, .int .i64 T6.n, .int .i64 T6.seq, .string T6.tag] 23) = w7 at *
          go_wp2_with fail
          refine (takeF_any fr w1.heap.size tb mb Q6 _ L d w7 HF7.out.tab HF7.out.bel.size HP1.out (Or.inl HO7.out.reads) HLN.out (keys_below hk (Below.more HB1.out HF7.out.bel)) (HG.out.below (Below.more HB1.out HF7.out.bel))).mono ?_
          rintro e w8 ⟨rfl, hs8⟩
          have hkn : Q6.map (·.kn) = [⟨feed, key, (n : Int) + 1, S ++ [(d, v)]⟩] := HF7.out.kn
          rw [hkn] at hs8 ⊢
          rw [HAG.out.2] at hs8
          rw [HAG.out.1]
          obtain ⟨Q8, HF8⟩ := HF7.out.again rfl hs8
          generalize hT8 : Orc.tfTip _ _ _ = T8 at *
          have hbt : Below w8.heap.size w8 (w8.alloc (.cells #[.string T8.feed, .int .i64 T8.day, .int .i64 T8.n, .int .i64 T8.seq, .string T8.tag] 23)) := (Below.refl _ _).alloc (Nat.le_refl _) _
          have HF9 := hid' (HF8.below hbt)
          clear hT8 hbt HF8 HF7 HO7 hs8 hkn
          go_upto_region 18 with (fail)
          generalize w8.alloc (.cells #[.string T8.feed, .int .i64 T8.day, .int .i64 T8.n, .int .i64 T8.seq, .string T8.tag] 23) = w9 at *
          go_wp2_with fail
          go_roundw
          case rel => exact ⟨i + 1, n + 1, d, Q8, S ++ [(d, v)], by go_num, rfl, rfl, HF9⟩
          case measure => simp [intOf]; omega
      · have hcase : decide ((i : Int) < (days.length : Int)) = false ∨ (decide ((i : Int) < (days.length : Int)) = true ∧ decide ((i : Int) < (vals.length : Int)) = false) ∨ (decide ((i : Int) < (days.length : Int)) = true ∧ decide ((i : Int) < (vals.length : Int)) = true ∧ decide ((i : Int) < 100) = false) := by
          by_cases a1 : i < days.length
          · by_cases a2 : i < vals.length
            · exact .inr (.inr ⟨decide_eq_true (by omega), decide_eq_true (by omega), decide_eq_false (fun h => hin ⟨a1, a2, by omega⟩)⟩)
            · exact .inr (.inl ⟨decide_eq_true (by omega), decide_eq_false (by omega)⟩)
          · exact .inl (decide_eq_false (by omega))
        have HQK := hid' HF.out.kn
        have HSL := hid' HF.out.len
        have HSQ := hid' (show seqOf Q feed = (n : Int) by rw [seqOf_is HF.out.kn, Orc.findK_one ⟨feed, key, (n : Int), S⟩])
        have HFM := hid' HF.out.few
        have HNS := hid' (show feed.size ≤ maxLen from Nat.le_trans (Led.name_len HN.out) (by decide))
        clear hin
        have b1n : decide ((i : Int) < (days.length : Int)) = decide (i < days.length) := by congr 1; exact propext (by omega)
        have b2n : decide ((i : Int) < (vals.length : Int)) = decide (i < vals.length) := by congr 1; exact propext (by omega)
        have b3n : decide ((i : Int) < 100) = decide (i < 100) := by congr 1; exact propext (by omega)
        rw [b1n, b2n] at hcase
        clear b1n b2n b3n
        rcases hcase with b1 | ⟨b1, b2⟩ | ⟨b1, b2, b3⟩
        all_goals go_wp2_with fail
        all_goals refine (feeds_any w1.heap.size tb mb Q wr HF.out.tab).mono ?_
        all_goals rintro e w10 ⟨v10, q, rfl, hfd, hqn⟩
        all_goals obtain ⟨fb, fo, fc, sp, sc, rfl, c0, c1⟩ := one_seen HQK.out (by rw [HSL.out]; have := HFM.out; omega) hfd hqn
        all_goals rw [HSL.out] at c1
        all_goals have HF10 := hid' (HF.out.below hfd.bel)
        all_goals clear hfd hqn
        all_goals go_wp2_with fail
        all_goals refine (seq_any w1.heap.size tb mb Q feed w10 HF10.out.tab HNS.out).mono ?_
        all_goals rintro e w11 ⟨rfl, rfl⟩
        all_goals rw [HSQ.out]
        all_goals go_wp2_with fail
        all_goals go_ret
        all_goals exact ⟨rfl, Below.more HB1.out HF10.out.bel⟩
end Go.Proofs.YtmddaomchhigbaaGreatDoor
