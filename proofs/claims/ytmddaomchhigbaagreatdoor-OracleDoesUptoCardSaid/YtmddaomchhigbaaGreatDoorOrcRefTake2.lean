/- Proved: the reference's Take as a contract. -/
import Derived.Test.YtmddaomchhigbaaGreatDoorOrcRefTake
import Derived.Test.YtmddaomchhigbaaGreatDoorOrcRef2
import Derived.Deep.DeepCutAuto
namespace Go.Proofs.YtmddaomchhigbaaGreatDoor
open Go.RowKit Go.Maps
open Led Orc
set_option linter.unusedVariables false
set_option linter.unusedSimpArgs false
set_option maxRecDepth 100000
theorem RfStep.more {base rb : Nat} {lv : Value} {R : List Rk} {L' : List Orc.Kn} {w W1 W2 : World} (s : RfStep base rb lv R L' w W1) (B : Below W1.heap.size W1 W2) : RfStep base rb lv R L' w W2 := by
  obtain ⟨lv', R', e, t, o, f⟩ := s
  exact ⟨lv', R', e, t.below B, ⟨B.os.trans o.os, B.tape.trans o.tape, B.output.trans o.output, Nat.le_trans o.size B.size, fun k hk hF => (B.block k (Nat.lt_of_lt_of_le hk o.size)).trans (o.block k hk hF)⟩, f⟩
theorem new_second (w8 : World) (o1 o2 : Obj) : ((w8.alloc o1).alloc o2).heap[w8.heap.size + 1]? = some o2 := by
  have := heap_alloc_new (w8.alloc o1) o2
  have e : (w8.alloc o1).heap.size = w8.heap.size + 1 := by simp
  rw [e] at this
  exact this
theorem new_first (w8 : World) (o1 o2 : Obj) : ((w8.alloc o1).alloc o2).heap[w8.heap.size]? = some o1 := by
  rw [Below.heap_alloc _ _ _ (by simp)]
  exact heap_alloc_new w8 o1
theorem kn_fits {k : Orc.Kn} {t : Orc.Tip} {l : List UInt8} (h : KnFits k) (hd : Orc.dec l = some t) (hn : k.stamps.length ≠ 4096) : KnFits (Orc.tkKn k t) := by
  obtain ⟨_, d1, d2, n1, n2, s1, s2⟩ := Orc.core_parts (Orc.right_core (Orc.enc_dec hd).2).1
  refine ⟨h.name, h.key, ⟨by show 0 ≤ t.seq; omega, s2⟩, by show (k.stamps ++ [(t.day, t.n)]).length ≤ 4096; rw [List.length_append]; have := h.stamps; simp; omega, fun x hx => ?_⟩
  rcases List.mem_append.1 hx with hx | hx
  · exact h.days x hx
  · rw [List.mem_singleton.1 hx]
    exact ⟨d1, d2, n1, n2⟩
theorem made_second (w8 : World) (o : Obj) (n : Nat) (hn : n ≤ 100000) : StampRow w8.heap.size ((w8.alloc o).alloc (.cells (madeCells (Value.agg #[.int .i64 0, .int .i64 0]).cells ((n + 1) * 2)) 54)) (.slice (some ⟨w8.heap.size + 1, 0, none⟩) 0 (n + 1)) [] := by
  have h := made_stamps (w8.alloc o) n hn
  have e : (w8.alloc o).heap.size = w8.heap.size + 1 := by simp
  rw [e] at h
  exact ownsRow_less h (by omega)
theorem built_after {w8 w9 : World} {o1 : Obj} {u1 u2 : Value} (h6 : ((w8.alloc o1).alloc (.cells #[u1, u2] 54)).drew.grownBy w9 (some w8.heap.size)) : w9.heap[w8.heap.size + 1]? = some (.cells #[u1, u2] 54 (0, 0)) := by
  have h1 : ((w8.alloc o1).alloc (.cells #[u1, u2] 54)).heap[w8.heap.size + 1]? = some (.cells #[u1, u2] 54 (0, 0)) := by
    have := heap_alloc_new (w8.alloc o1) (.cells #[u1, u2] 54)
    have e : (w8.alloc o1).heap.size = w8.heap.size + 1 := by simp
    rw [e] at this
    exact this
  rw [h6.block (w8.heap.size + 1) (by simp) (by intro e; have := Option.some.inj e; omega)]
  exact h1
theorem built_before {w8 w9 : World} {o1 : Obj} {u1 u2 : Value} (h6 : ((w8.alloc (.cells #[u1, u2] 54)).alloc o1).drew.grownBy w9 (some (w8.heap.size + 1))) : w9.heap[w8.heap.size]? = some (.cells #[u1, u2] 54 (0, 0)) := by
  have h1 : ((w8.alloc (.cells #[u1, u2] 54)).alloc o1).heap[w8.heap.size]? = some (.cells #[u1, u2] 54 (0, 0)) := by
    rw [Below.heap_alloc _ _ _ (by simp)]
    exact heap_alloc_new w8 (.cells #[u1, u2] 54)
  rw [h6.block w8.heap.size (by simp; omega) (by intro e; simp at e)]
  exact h1
set_option maxHeartbeats 40000000 in
theorem refTake_any (base rb : Nat) (lv : Value) (R : List Rk) (v0 : Value) (l : List UInt8) (today : Int) (w : World) (h : RfTab base rb lv R w) (hbase : base ≤ w.heap.size) (hr : Reads0 w v0 l) (hl : l.length ≤ 100000000) :
    Calls Tryz.prog 21 #[.pointer (some ⟨rb, 0, none⟩), v0, .int .i64 today] w (RTakeOut base rb lv R l today w) := by
  have HH := hid' h
  have HBS := hid' hbase
  have HL := hid' hl
  have HRD := hid' (fun (W : World) (hb : Below w.heap.size w W) => refDecode_any0 v0 l W (hr.below hb) hl)
  have HFD := hid' (fun (W : World) (hb : Below w.heap.size w W) (s : ByteArray) => refFind_any base rb lv R s W (h.below hb))
  have HZ0 := hid' (heap_alloc_new w (.cells #[.string ⟨#[]⟩, .int .i64 0, .int .i64 0, .int .i64 0, .string ⟨#[]⟩] 23))
  have HB0 := hid' (show Below w.heap.size w (w.alloc (.cells #[.string ⟨#[]⟩, .int .i64 0, .int .i64 0, .int .i64 0, .string ⟨#[]⟩] 23)) from (Below.refl _ _).alloc (Nat.le_refl _) _)
  obtain ⟨p0, c0, rfl⟩ := hr.len
  clear h hbase hr hl
  go_enter Tryz.func21, Tryz.ntmps21
  go_upto_region 1 with (fail)
  obtain ⟨zb, hzb⟩ : ∃ zb, zb = w.heap.size := ⟨_, rfl⟩
  have HZL := hid' (show w.heap.size ≤ zb by omega)
  rw [← hzb] at HZ0 ⊢
  clear hzb
  generalize w.alloc (.cells #[.string ⟨#[]⟩, .int .i64 0, .int .i64 0, .int .i64 0, .string ⟨#[]⟩] 23) = w1 at *
  by_cases ht : today < 0 ∨ 73048 < today
  · have HC := hid' (show Orc.tfCode (R.map (·.kn)) l today = 2 by unfold Orc.tfCode; rw [if_pos ht])
    obtain ⟨r0, r1, r2, r3, r4, f0, f1, f2, f3, f4⟩ := zero_cells HZ0.out
    have hcase : decide (today < 0) = true ∨ (decide (today < 0) = false ∧ decide (73048 < today) = true) := by
      by_cases h1 : today < 0
      · exact .inl (decide_eq_true h1)
      · exact .inr ⟨decide_eq_false h1, decide_eq_true (by omega)⟩
    clear ht
    rcases hcase with g1 | ⟨g1, g2⟩
    all_goals
      go_wp2_with fail
      refine bodyPost_ret (v := .tuple #[.agg #[.string ⟨#[]⟩, .int .i64 0, .int .i64 0, .int .i64 0, .string ⟨#[]⟩], .int .i64 2]) ?_ rfl ?_
      · simp [results, Tryz.results21, go_sem, r0, r1, r2, r3, r4]
      · exact RTakeOut.bad HH.out HC.out (by decide) (five_below HB0.out HZL.out _ _ _ _ _)
  · have HTD := hid' ht
    have g1 : decide (today < 0) = false := decide_eq_false (by omega)
    have g2 : decide (73048 < today) = false := decide_eq_false (by omega)
    clear ht
    go_wp2_with fail
    refine (HRD.out w1 HB0.out).mono ?_
    rintro e w2 ⟨rfl, b2⟩
    have HDC := hid' (show (Orc.dec l = none ∧ decCode l = 210) ∨ ∃ t, Orc.dec l = some t ∧ decTip l = t ∧ decCode l = 0 from by
      unfold decTip decCode
      cases Orc.dec l with
      | none => exact .inl ⟨rfl, rfl⟩
      | some t => exact .inr ⟨t, rfl, rfl, rfl⟩)
    generalize decTip l = td at *
    generalize decCode l = dc at *
    have hbt : Below w2.heap.size w2 (w2.alloc (.cells #[.string td.feed, .int .i64 td.day, .int .i64 td.n, .int .i64 td.seq, .string td.tag] 23)) := (Below.refl _ _).alloc (Nat.le_refl _) _
    have HX3 := hid' (TipBox.new w2 td)
    have HZ3 := hid' (block_kept hbt (block_kept b2 HZ0.out))
    have HB3 := hid' (Below.more (Below.more HB0.out b2) hbt)
    have HXL := hid' (show w.heap.size ≤ w2.heap.size ∧ zb ≠ w2.heap.size from ⟨(Below.more HB0.out b2).size, by have := lt_of_block (block_kept b2 HZ0.out); omega⟩)
    clear b2 hbt
    go_upto_region 4 with (fail)
    obtain ⟨xb, hxb⟩ : ∃ xb, xb = w2.heap.size := ⟨_, rfl⟩
    rw [← hxb] at HX3 HXL ⊢
    clear hxb
    generalize w2.alloc (.cells #[.string td.feed, .int .i64 td.day, .int .i64 td.n, .int .i64 td.seq, .string td.tag] 23) = w3 at *
    rcases HDC.out with ⟨hd, rfl⟩ | ⟨t, hd, rfl, rfl⟩
    · have HC := hid' (tf_none (L := R.map (·.kn)) HTD.out hd)
      obtain ⟨r0, r1, r2, r3, r4, f0, f1, f2, f3, f4⟩ := zero_cells HZ3.out
      clear hd
      go_wp2_with fail
      refine bodyPost_ret (v := .tuple #[.agg #[.string ⟨#[]⟩, .int .i64 0, .int .i64 0, .int .i64 0, .string ⟨#[]⟩], .int .i64 210]) ?_ rfl ?_
      · simp [results, Tryz.results21, go_sem, r0, r1, r2, r3, r4]
      · exact RTakeOut.bad HH.out HC.out (by decide) (five_below HB3.out HZL.out _ _ _ _ _)
    · have HD := hid' hd
      obtain ⟨x0, _, _, _, _, _⟩ := HX3.out.cells
      clear hd
      go_wp2_with fail
      refine (HFD.out w3 HB3.out td.feed).mono ?_
      rintro e w4 ⟨r, rfl, hr, rfl⟩
      rcases hr with ⟨rfl, hnf⟩ | ⟨i, x, rfl, hx, hs, hf⟩
      · have HC := hid' (show Orc.tfCode (R.map (·.kn)) l today = 211 by rw [tf_code HTD.out HD.out]; unfold Orc.tkCode; rw [hnf])
        obtain ⟨r0, r1, r2, r3, r4, f0, f1, f2, f3, f4⟩ := zero_cells HZ3.out
        clear hnf x0
        go_wp2_with fail
        refine bodyPost_ret (v := .tuple #[.agg #[.string ⟨#[]⟩, .int .i64 0, .int .i64 0, .int .i64 0, .string ⟨#[]⟩], .int .i64 211]) ?_ rfl ?_
        · simp [results, Tryz.results21, go_sem, r0, r1, r2, r3, r4]
        · exact RTakeOut.bad HH.out HC.out (by decide) (five_below HB3.out HZL.out _ _ _ _ _)
      · have h4 := HH.out.below HB3.out
        obtain ⟨lp, lc, rfl, hlc, hcell⟩ := h4.form
        obtain ⟨g, rfl, hgl, k0, k1, k2, k3, kf⟩ := hcell i x hx
        have HX := hid' (And.intro hx (And.intro hs hf))
        have c0 := (block_cells h4.hb).1 0 _ rfl
        have hi := (List.getElem?_eq_some_iff.1 hx).1
        have hl64 := h4.room
        obtain ⟨sp, sc, hsv, _, _⟩ := (h4.st x (List.mem_of_getElem? hx)).form
        have HSV := hid' hsv
        rw [hsv] at k1
        have g0 : decide ((i : Int) < 0) = false := decide_eq_false (by omega)
        have j1 : (0 : Int) ≤ (i : Int) := by omega
        have j2 : (i : Int) < (R.length : Int) := by omega
        clear hx hs hf h4 hcell hi hsv kf hgl
        go_upto_region 10 with (fail)
        have hbk : Below w4.heap.size w4 (w4.alloc (.cells #[.string x.kn.name, .slice sp x.kn.stamps.length sc, .string x.kn.key, .int .i64 x.kn.seq] 85)) := (Below.refl _ _).alloc (Nat.le_refl _) _
        have HT5 := hid' (show RTk w zb xb w4.heap.size td x (w4.alloc (.cells #[.string x.kn.name, .slice sp x.kn.stamps.length sc, .string x.kn.key, .int .i64 x.kn.seq] 85)) from
          ⟨Below.more HB3.out hbk, block_kept hbk HZ3.out, HX3.out.below hbk, by rw [HSV.out]; exact heap_alloc_new w4 _, HZL.out, HXL.out.1, HB3.out.size, HXL.out.2⟩)
        obtain ⟨kb, hkb⟩ : ∃ kb, kb = w4.heap.size := ⟨_, rfl⟩
        rw [← hkb] at HT5 ⊢
        clear hkb hbk x0 k0 k1 k2 k3 c0 HZ3 HB3 HX3 HXL HZ0 HB0
        generalize w4.alloc (.cells #[.string x.kn.name, .slice sp x.kn.stamps.length sc, .string x.kn.key, .int .i64 x.kn.seq] 85) = w5 at *
        obtain ⟨n, hn⟩ : ∃ n, n = x.kn.stamps.length := ⟨_, rfl⟩
        have HN := hid' hn
        have hxf := HH.out.fits x (List.mem_of_getElem? HX.out.1)
        have hn4 := hxf.stamps
        rw [← hn] at hn4
        have HXF := hid' hxf
        have hn5 : (n : Int) ≤ 4096 := by omega
        have hn6 : (0 : Int) ≤ (n : Int) := by omega
        have k1 := (block_cells HT5.out.kk).1 1 _ rfl
        replace k1 : w5.cell? ⟨kb, 1, none⟩ = some (.slice sp n sc) := by rw [hn, ← HSV.out]; exact k1
        rw [← hn]
        clear hn hxf
        go_upto_region 11 with (fail)
        clear k1
        have HR := hid' (Orc.enc_dec HD.out).2
        have hcp := Orc.core_parts (Orc.right_core HR.out).1
        have hfl := Led.name_len hcp.1
        have HFIT := hid' (show Orc.Fits td from ⟨by omega, by have := (Orc.right_core HR.out).2; omega, by omega, by omega, by omega⟩)
        clear hcp hfl
        obtain ⟨sg, hsg⟩ : ∃ sg : ByteArray, Hid (sg = Orc.sign td x.kn.key) := ⟨_, hid' rfl⟩
        have HSG := hid' (fun (wx : World) (hb : Below w5.heap.size w5 wx) => refSign_any td x.kn.key wx HFIT.out (by have := HXF.out.key.2; omega))
        rw [← hsg.out] at HSG
        have HKC := hid' (fun (wx : World) (hb : Below w5.heap.size w5 wx) => And.intro (HT5.out.below hb).kx.cells ((block_cells (HT5.out.below hb).kk).1 2 _ rfl))
        have hbx := (Below.refl w5.heap.size w5).drew
        go_cut [46] (fun v wx => v = .bool (!decide (sg = td.tag)) ∧ ∃ wn, wn = wx ∧ Below w5.heap.size w5 wn)
        case first =>
          by_cases hst : sg = td.tag
          · have g4 : (sg.toList == td.tag.toList) = true := by rw [hst]; simp
            have g5 : (sg.toList != td.tag.toList) = false := by rw [hst]; simp
            have HST := hid' (show Value.bool false = .bool (!decide (sg = td.tag)) by rw [decide_eq_true hst]; rfl)
            clear hst
            go_region_held3 (fun w' => w'.cell? ⟨xb, 0, none⟩ = some (.string td.feed) ∧ w'.cell? ⟨xb, 1, none⟩ = some (.int .i64 td.day) ∧ w'.cell? ⟨xb, 2, none⟩ = some (.int .i64 td.n) ∧ w'.cell? ⟨xb, 3, none⟩ = some (.int .i64 td.seq) ∧ w'.cell? ⟨xb, 4, none⟩ = some (.string td.tag) ∧ w'.cell? ⟨kb, 2, none⟩ = some (.string x.kn.key)) (exact ⟨(HKC.out _ hbx).1.1, (HKC.out _ hbx).1.2.1, (HKC.out _ hbx).1.2.2.1, (HKC.out _ hbx).1.2.2.2.1, (HKC.out _ hbx).1.2.2.2.2.1, (HKC.out _ hbx).2⟩) (first | (go_at_call 15; refine (HSG.out _ hbx).mono ?_; rintro e wa ⟨rfl, ba⟩; have hbx := Below.more hbx ba; clear ba))
            all_goals
              go_wp2_with fail
              go_meet
              exact ⟨HST.out, _, rfl, hbx⟩
          · have hne : ¬ (sg.toList = td.tag.toList) := by
              intro e
              rw [ByteArray.toList_eq, ByteArray.toList_eq] at e
              exact hst (ba_ext e)
            have g4 : (sg.toList == td.tag.toList) = false := by rw [beq_eq_false_iff_ne]; exact hne
            have g5 : (sg.toList != td.tag.toList) = true := by rw [bne_iff_ne]; exact hne
            have HST := hid' (show Value.bool true = .bool (!decide (sg = td.tag)) by rw [decide_eq_false hst]; rfl)
            clear hst hne
            go_region_held3 (fun w' => w'.cell? ⟨xb, 0, none⟩ = some (.string td.feed) ∧ w'.cell? ⟨xb, 1, none⟩ = some (.int .i64 td.day) ∧ w'.cell? ⟨xb, 2, none⟩ = some (.int .i64 td.n) ∧ w'.cell? ⟨xb, 3, none⟩ = some (.int .i64 td.seq) ∧ w'.cell? ⟨xb, 4, none⟩ = some (.string td.tag) ∧ w'.cell? ⟨kb, 2, none⟩ = some (.string x.kn.key)) (exact ⟨(HKC.out _ hbx).1.1, (HKC.out _ hbx).1.2.1, (HKC.out _ hbx).1.2.2.1, (HKC.out _ hbx).1.2.2.2.1, (HKC.out _ hbx).1.2.2.2.2.1, (HKC.out _ hbx).2⟩) (first | (go_at_call 15; refine (HSG.out _ hbx).mono ?_; rintro e wa ⟨rfl, ba⟩; have hbx := Below.more hbx ba; clear ba))
            all_goals
              go_wp2_with fail
              go_meet
              exact ⟨HST.out, _, rfl, hbx⟩
        case rest =>
          obtain ⟨rfl, w6, rfl, hb6⟩ := hcut
          have HT6 := hid' (HT5.out.below hb6)
          clear hb6 hbx HSG HKC HT5
          have HTC := hid' (tf_code (L := R.map (·.kn)) HTD.out HD.out)
          have HKC := hid' (rk_code (today := today) HX.out.2.2)
          by_cases hst : sg = td.tag
          · rw [decide_eq_true hst]
            have HSE := hid' (show Orc.sign td x.kn.key = td.tag by rw [← hsg.out]; exact hst)
            clear hst
            by_cases hsq : td.seq ≤ x.kn.seq
            · have g4 : decide (td.seq ≤ x.kn.seq) = true := decide_eq_true hsq
              have HC := hid' (show Orc.tfCode (R.map (·.kn)) l today = 213 by rw [HTC.out, HKC.out, if_neg (by rw [HSE.out]; simp), if_pos hsq])
              have x3 := HT6.out.kx.cells.2.2.2.1
              have k3 := (block_cells HT6.out.kk).1 3 _ rfl
              clear hsq
              obtain ⟨r0, r1, r2, r3, r4, f0, f1, f2, f3, f4⟩ := zero_cells HT6.out.kr
              go_wp2_with fail
              refine bodyPost_ret (v := .tuple #[.agg #[.string ⟨#[]⟩, .int .i64 0, .int .i64 0, .int .i64 0, .string ⟨#[]⟩], .int .i64 213]) ?_ rfl ?_
              · simp [results, Tryz.results21, go_sem, r0, r1, r2, r3, r4]
              · exact RTakeOut.bad HH.out HC.out (by decide) (five_below HT6.out.bel HZL.out _ _ _ _ _)
            · have g4 : decide (td.seq ≤ x.kn.seq) = false := decide_eq_false hsq
              have HSQ := hid' hsq
              have x3 := HT6.out.kx.cells.2.2.2.1
              have k3 := (block_cells HT6.out.kk).1 3 _ rfl
              clear hsq
              have HCD := hid' (show (today < td.day ∨ td.day ≤ Orc.lastDay x.kn.stamps) → Orc.tfCode (R.map (·.kn)) l today = 214 from fun e => by rw [HTC.out, HKC.out, if_neg (by rw [HSE.out]; simp), if_neg HSQ.out, if_pos e])
              have x1 := HT6.out.kx.cells.2.1
              have hst7 := ((HH.out.below HT6.out.bel).st x (List.mem_of_getElem? HX.out.1))
              have hlast : (n = 0 ∧ Orc.lastDay x.kn.stamps = -1) ∨ (0 < n ∧ ∃ sg2, sp = some ⟨sg2, 0, none⟩ ∧ w6.cell? ⟨sg2, (n - 1) * 2, none⟩ = some (.int .i64 (Orc.lastDay x.kn.stamps))) := by
                by_cases hz : n = 0
                · exact .inl ⟨hz, lastDay_none (by rw [← HN.out]; exact hz)⟩
                · obtain ⟨y, hy⟩ : ∃ y, x.kn.stamps[x.kn.stamps.length - 1]? = some y := ⟨_, List.getElem?_eq_getElem (by have := HN.out; omega)⟩
                  obtain ⟨sg2, sc2, hs2, s0, s1⟩ := hst7.at hy
                  rw [HSV.out] at hs2
                  obtain ⟨rfl, rfl⟩ : sp = some ⟨sg2, 0, none⟩ ∧ sc = sc2 := by simp at hs2; exact hs2
                  rw [← HN.out] at s0
                  exact .inr ⟨by omega, sg2, rfl, by rw [lastDay_at hy]; exact s0⟩
              have HDP := hid' (Orc.core_parts (Orc.right_core HR.out).1).2.1
              have HLST := hid' hlast
              clear hst7 hlast
              go_upto_region 15 with (fail)
              clear x3 k3
              go_cut [62] (fun v wx => v = .bool (decide (today < td.day ∨ td.day ≤ Orc.lastDay x.kn.stamps)) ∧ ∃ m, wx = w6.drewN m)
              case first =>
                by_cases hdy : today < td.day
                · have g5 : decide (today < td.day) = true := decide_eq_true hdy
                  have HV := hid' (show Value.bool true = .bool (decide (today < td.day ∨ td.day ≤ Orc.lastDay x.kn.stamps)) by rw [decide_eq_true (Or.inl hdy)])
                  clear hdy
                  go_quiet (fail)
                  go_wp2_with fail
                  go_meet
                  exact ⟨HV.out, _, rfl⟩
                · have g5 : decide (today < td.day) = false := decide_eq_false hdy
                  rcases HLST.out with ⟨hz, hlm⟩ | ⟨hz, sg2, rfl, s0⟩
                  · have g7 : decide (0 < n) = false := decide_eq_false (by omega)
                    have HV := hid' (show Value.bool false = .bool (decide (today < td.day ∨ td.day ≤ Orc.lastDay x.kn.stamps)) by rw [decide_eq_false (by rw [hlm]; have := HDP.out; omega)])
                    clear hdy hlm hz
                    go_quiet (fail)
                    go_wp2_with fail
                    go_meet
                    exact ⟨HV.out, _, rfl⟩
                  · have g7 : decide (0 < n) = true := decide_eq_true hz
                    have hw1 : IntKind.i64.wrap ((n : Int) - 1) = (n : Int) - 1 := IntWalk.i64_in _ (by omega)
                    have hw2 : (0 : Int) ≤ (n : Int) - 1 := by omega
                    have hw3 : (1 : Int) ≤ (n : Int) := by omega
                    have hw4 : (n : Int) - 1 < (n : Int) := by omega
                    have hw5 : ((n : Int) - 1).toNat = n - 1 := by omega
                    have HV := hid' (show Value.bool (decide (td.day ≤ Orc.lastDay x.kn.stamps)) = .bool (decide (today < td.day ∨ td.day ≤ Orc.lastDay x.kn.stamps)) by congr 1; exact decide_eq_decide.2 ⟨Or.inr, fun h => h.resolve_left hdy⟩)
                    clear hdy
                    go_quiet (fail)
                    go_wp2_with fail
                    go_meet
                    exact ⟨HV.out, _, rfl⟩
              case rest =>
                obtain ⟨rfl, m8, hw8⟩ := hcut
                obtain ⟨w8, hw8'⟩ : ∃ w8, w8 = w6.drewN m8 := ⟨_, rfl⟩
                have HT8 := hid' (show RTk w zb xb kb td x w8 by rw [hw8']; exact HT6.out.below (Below.drewn (Below.refl _ _) _))
                rw [hw8, ← hw8']
                clear hw8 hw8' x1
                by_cases hor : today < td.day ∨ td.day ≤ Orc.lastDay x.kn.stamps
                · rw [decide_eq_true hor]
                  have HC := hid' (HCD.out hor)
                  clear hor
                  obtain ⟨r0, r1, r2, r3, r4, f0, f1, f2, f3, f4⟩ := zero_cells HT8.out.kr
                  go_wp2_with fail
                  refine bodyPost_ret (v := .tuple #[.agg #[.string ⟨#[]⟩, .int .i64 0, .int .i64 0, .int .i64 0, .string ⟨#[]⟩], .int .i64 214]) ?_ rfl ?_
                  · simp [results, Tryz.results21, go_sem, r0, r1, r2, r3, r4]
                  · exact RTakeOut.bad HH.out HC.out (by decide) (five_below HT8.out.bel HZL.out _ _ _ _ _)
                · rw [decide_eq_false hor]
                  have HCF := hid' (show Orc.tkCode (R.map (·.kn)) td today = if x.kn.stamps.length = 4096 then 215 else 0 by rw [HKC.out, if_neg (by rw [HSE.out]; simp), if_neg HSQ.out, if_neg hor])
                  clear hor
                  by_cases hz4 : n = 4096
                  · have g8 : decide (4096 ≤ n) = true := decide_eq_true (by omega)
                    have g9 : decide ((4096 : Int) ≤ (n : Int)) = true := decide_eq_true (by omega)
                    have HC := hid' (show Orc.tfCode (R.map (·.kn)) l today = 215 by rw [HTC.out, HCF.out, if_pos (by rw [← HN.out]; exact hz4)])
                    clear hz4
                    obtain ⟨r0, r1, r2, r3, r4, f0, f1, f2, f3, f4⟩ := zero_cells HT8.out.kr
                    go_wp2_with fail
                    refine bodyPost_ret (v := .tuple #[.agg #[.string ⟨#[]⟩, .int .i64 0, .int .i64 0, .int .i64 0, .string ⟨#[]⟩], .int .i64 215]) ?_ rfl ?_
                    · simp [results, Tryz.results21, go_sem, r0, r1, r2, r3, r4]
                    · exact RTakeOut.bad HH.out HC.out (by decide) (five_below HT8.out.bel HZL.out _ _ _ _ _)
                  · have g8 : decide (4096 ≤ n) = false := decide_eq_false (by omega)
                    have g9 : decide ((4096 : Int) ≤ (n : Int)) = false := decide_eq_false (by omega)
                    have HZZ := hid' hz4
                    clear hz4
                    have hsp : (sp = none ∧ n = 0 ∧ sc = 0) ∨ ∃ sg2, sp = some ⟨sg2, 0, none⟩ := by
                      obtain ⟨_, ⟨e1, e2⟩ | ⟨g2, cap, cur, e, _⟩⟩ := (HH.out.st x (List.mem_of_getElem? HX.out.1))
                      · rw [HSV.out] at e1
                        simp only [Value.slice.injEq] at e1
                        exact .inl ⟨e1.1, by rw [HN.out]; exact e2, e1.2.2⟩
                      · rw [HSV.out] at e
                        simp only [Value.slice.injEq] at e
                        exact .inr ⟨g2, e.1⟩
                    rcases hsp with ⟨rfl, rfl, rfl⟩ | ⟨sg2, rfl⟩
                    · --N
                      have hmk : ∀ W : World, (Instr.makeSlice 50 (.int .i64 0) (.int .i64 1)).run Tryz.prog W = .ok (.slice (some ⟨W.heap.size, 0, none⟩) 0 1) (W.alloc (.cells (madeCells (Value.agg #[.int .i64 0, .int .i64 0]).cells 2) 54)) := fun W => make_stamps W 0 (by omega)
                      have hwn : IntKind.i64.wrap 1 = 1 := by decide
                      have HMD := hid' (show ∀ W : World, StampRow W.heap.size (W.alloc (.cells (madeCells (Value.agg #[.int .i64 0, .int .i64 0]).cells 2) 54)) (.slice (some ⟨W.heap.size, 0, none⟩) 0 1) [] from fun W => made_stamps W 0 (by omega))
                      have HM2 := hid' (show ∀ o : Obj, StampRow w8.heap.size ((w8.alloc o).alloc (.cells (madeCells (Value.agg #[.int .i64 0, .int .i64 0]).cells 2) 54)) (.slice (some ⟨w8.heap.size + 1, 0, none⟩) 0 1) [] from fun o => made_second w8 o 0 (by omega))
                      have HN5 := hid' hn4
                      have y1 := HT8.out.kx.cells.2.1
                      have y2 := HT8.out.kx.cells.2.2.1
                      have d1 : w8.drew.cell? ⟨xb, 1, none⟩ = some (.int .i64 td.day) := y1
                      have d2 : w8.drew.cell? ⟨xb, 2, none⟩ = some (.int .i64 td.n) := y2
                      have a1 := fun o => alloc_cell y1 o
                      have a2 := fun o => alloc_cell y2 o
                      have a3 := fun o o' => alloc_cell (alloc_cell y1 o) o'
                      have a4 := fun o o' => alloc_cell (alloc_cell y2 o) o'
                      go_upto_region 19 with (fail)
                      go_cut [12] (fun v wx => v = .slice none 0 0 ∧ ∃ (wn : World) (g5 c5 : Nat), wn = wx ∧ RTk w zb xb kb td ⟨⟨x.kn.name, x.kn.key, x.kn.seq, x.kn.stamps ++ [(td.day, td.n)]⟩, .slice (some ⟨g5, 0, none⟩) (0 + 1) c5⟩ wn ∧ StampRow w.heap.size wn (.slice (some ⟨g5, 0, none⟩) (0 + 1) c5) (x.kn.stamps ++ [(td.day, td.n)]))
                      case first =>
                        have HEM := hid' (List.length_eq_zero_iff.1 HN.out.symm)
                        go_region_law (first | (refine step_stamps_none rfl _ _ (by rfl) w8.heap.size _ [] (by rfl) (by first | exact HMD.out w8 | exact World.ownsRow.alloc (HMD.out w8) _ | exact HM2.out _) (by rfl) ?_) | (refine step_stamp rfl _ _ (by rfl) w8.heap.size _ [] (by rfl) (by exact World.ownsRow.alloc (HMD.out w8) _) (w8.heap.size + 1) (by rfl) (.int .i64 td.day) (.int .i64 td.n) (by exact new_second w8 _ _) rfl rfl (by decide) (by (try simp) <;> omega) ?_; intro g5 c5 w10 h7 h8 h9; have hb10 := Below.grown (B := w8.heap.size) (a := w8) (((Below.refl _ _).drew.alloc (Nat.le_refl _) _).alloc (by (try simp) <;> omega) _) h8 (by (try simp) <;> omega) (fun k e => by cases e; first | exact Nat.le_refl _ | simp); have m1 := (block_cells (HT8.out.below hb10).kk).1 1 _ rfl; have m2 := (block_cells (HT8.out.below hb10).kk).2 1) | (refine step_stamp rfl _ _ (by rfl) w8.heap.size _ [] (by rfl) (by exact HM2.out _) w8.heap.size (by rfl) (.int .i64 td.day) (.int .i64 td.n) (by exact new_first w8 _ _) rfl rfl (by decide) (by (try simp) <;> omega) ?_; intro g5 c5 w10 h7 h8 h9; have hb10 := Below.grown (B := w8.heap.size) (a := w8) (((Below.refl _ _).drew.alloc (Nat.le_refl _) _).alloc (by (try simp) <;> omega) _) h8 (by (try simp) <;> omega) (fun k e => by cases e; first | exact Nat.le_refl _ | simp); have m1 := (block_cells (HT8.out.below hb10).kk).1 1 _ rfl; have m2 := (block_cells (HT8.out.below hb10).kk).2 1))
                        all_goals
                          go_wp2_with fail
                          go_meet
                          refine ⟨rfl, _, g5, c5, rfl, (HT8.out.below hb10).setStamps _ _, ?_⟩
                          have h7' : StampRow w8.heap.size w10 (.slice (some ⟨g5, 0, none⟩) (0 + 1) c5) (x.kn.stamps ++ [(td.day, td.n)]) := by
                            rw [HEM.out]
                            exact h7
                          exact ownsRow_less (h7'.same fun k hk => setCell_other _ _ _ _ (row_block_ne h7' (HT8.out.below hb10).kk k hk)) HT8.out.bel.size
                      case rest =>
                        obtain ⟨rfl, w11, g5, c5, rfl, ht11, hrow⟩ := hcut
                        have HT11 := hid' ht11
                        have HROW := hid' hrow
                        have q3 := HT11.out.kx.cells.2.2.2.1
                        have m3 := (block_cells HT11.out.kk).1 3 _ rfl
                        have mf := (block_cells HT11.out.kk).2 3
                        have HC0 := hid' (show Orc.tkCode (R.map (·.kn)) td today = 0 by rw [HCF.out, if_neg (by rw [← HN.out]; exact HZZ.out)])
                        clear ht11 hrow y1 y2 d1 d2 a1 a2 a3 a4 hmk
                        go_upto_region 21 with (fail)
                        have HT12 := hid' (HT11.out.setSeq td.seq)
                        have HROW2 := hid' (show StampRow w.heap.size (w11.setCell ⟨kb, 3, none⟩ (.int .i64 td.seq)) (.slice (some ⟨g5, 0, none⟩) (0 + 1) c5) (x.kn.stamps ++ [(td.day, td.n)]) from HROW.out.same fun k hk => setCell_other _ _ _ _ (row_block_ne HROW.out HT11.out.kk k hk))
                        clear q3 m3 mf
                        generalize w11.setCell ⟨kb, 3, none⟩ (.int .i64 td.seq) = w12 at *
                        obtain ⟨cc, _⟩ := block_cells HT12.out.kk
                        have m0 := cc 0 _ rfl
                        have m1 := cc 1 _ rfl
                        have m2 := cc 2 _ rfl
                        have m3 := cc 3 _ rfl
                        have h12 := HH.out.below HT12.out.bel
                        have c0 := (block_cells h12.hb).1 0 _ rfl
                        obtain ⟨lp2, lc2, elv, _, hcell2⟩ := h12.form
                        obtain ⟨g', eg, _, k0, k1, k2, k3, kf⟩ := hcell2 i x HX.out.1
                        obtain rfl : g = g' := by
                          have e1 := (Value.slice.inj elv).1
                          rw [eg] at e1
                          simpa using e1
                        have f0 := kf (i * 4)
                        have f1 := kf (i * 4 + 1)
                        have f2 := kf (i * 4 + 2)
                        have f3 := kf (i * 4 + 3)
                        clear cc hcell2 elv eg kf h12
                        go_still_tail 7, (by kernel_rfl)
                        change wpList _ _ _ _ _ w12.drew
                        go_upto_region 22 with (fail)
                        clear m0 m1 m2 m3 k0 k1 k2 k3 f0 f1 f2 f3 c0
                        have hgl : g < w.heap.size := (HH.out.foot (.inr (.inl rfl))).2
                        have hzg : zb ≠ g ∧ xb ≠ g := ⟨by have := HT12.out.lo.1; omega, by have := HT12.out.lo.2.1; omega⟩
                        have hput := HH.out.put HBS.out (W := w12) HT12.out.bel HX.out.1 (y := ⟨Orc.tkKn x.kn td, .slice (some ⟨g5, 0, none⟩) (0 + 1) c5⟩) rfl (kn_fits HXF.out HD.out (by rw [← HN.out]; exact HZZ.out)) HROW2.out
                        have hz13 : (((((w12.setCell ⟨g, i * 4, none⟩ (.string x.kn.name)).setCell ⟨g, i * 4 + 1, none⟩ (.slice (some ⟨g5, 0, none⟩) (0 + 1) c5)).setCell ⟨g, i * 4 + 2, none⟩ (.string x.kn.key)).setCell ⟨g, i * 4 + 3, none⟩ (.int .i64 td.seq)).drew).heap[zb]? = _ := (setCell_other _ _ _ _ hzg.1).trans ((setCell_other _ _ _ _ hzg.1).trans ((setCell_other _ _ _ _ hzg.1).trans ((setCell_other _ _ _ _ hzg.1).trans (show w12.heap[zb]? = _ from HT12.out.kr))))
                        have hx13 : TipBox (((((w12.setCell ⟨g, i * 4, none⟩ (.string x.kn.name)).setCell ⟨g, i * 4 + 1, none⟩ (.slice (some ⟨g5, 0, none⟩) (0 + 1) c5)).setCell ⟨g, i * 4 + 2, none⟩ (.string x.kn.key)).setCell ⟨g, i * 4 + 3, none⟩ (.int .i64 td.seq)).drew) xb td := (setCell_other _ _ _ _ hzg.2).trans ((setCell_other _ _ _ _ hzg.2).trans ((setCell_other _ _ _ _ hzg.2).trans ((setCell_other _ _ _ _ hzg.2).trans (show w12.heap[xb]? = _ from HT12.out.kx))))
                        have HPUT := hid' hput
                        have HZ13 := hid' hz13
                        have HX13 := hid' hx13
                        clear hput hz13 hx13 hgl hzg
                        replace HPUT := hid' (show RfStep base rb _ R _ w (((((w12.setCell ⟨g, i * 4, none⟩ (.string x.kn.name)).setCell ⟨g, i * 4 + 1, none⟩ (.slice (some ⟨g5, 0, none⟩) (0 + 1) c5)).setCell ⟨g, i * 4 + 2, none⟩ (.string x.kn.key)).setCell ⟨g, i * 4 + 3, none⟩ (.int .i64 td.seq)).drew) from HPUT.out.more ((Below.refl _ _).drew))
                        generalize (((((w12.setCell ⟨g, i * 4, none⟩ (.string x.kn.name)).setCell ⟨g, i * 4 + 1, none⟩ (.slice (some ⟨g5, 0, none⟩) (0 + 1) c5)).setCell ⟨g, i * 4 + 2, none⟩ (.string x.kn.key)).setCell ⟨g, i * 4 + 3, none⟩ (.int .i64 td.seq)).drew) = w13 at *
                        obtain ⟨r0, r1, r2, r3, r4, f0, f1, f2, f3, f4⟩ := zero_cells HZ13.out
                        obtain ⟨x0, x1, x2, x3, x4, _⟩ := HX13.out.cells
                        have HOK := hid' (tf_ok HTD.out HD.out HX.out.2.2 HC0.out)
                        go_wp2_with fail
                        refine bodyPost_ret (v := .tuple #[.agg #[.string td.feed, .int .i64 td.day, .int .i64 td.n, .int .i64 td.seq, .string td.tag], .int .i64 0]) ?_ rfl ?_
                        · simp [results, Tryz.results21, go_sem, r0, r1, r2, r3, r4]
                        · obtain ⟨e1, e2, e3⟩ := HOK.out
                          refine ⟨by rw [e1, e2], ?_⟩
                          rw [e3, ← HX.out.2.1]
                          exact HPUT.out.after (five_same w13 zb _ _ _ _ _) HZL.out HZ13.out
                    · --S
                      have hmk : ∀ W : World, (Instr.makeSlice 50 (.int .i64 0) (.int .i64 ((n : Int) + 1))).run Tryz.prog W = .ok (.slice (some ⟨W.heap.size, 0, none⟩) 0 (n + 1)) (W.alloc (.cells (madeCells (Value.agg #[.int .i64 0, .int .i64 0]).cells ((n + 1) * 2)) 54)) := fun W => make_stamps W n (by omega)
                      have hwn : IntKind.i64.wrap ((n : Int) + 1) = (n : Int) + 1 := IntWalk.i64_in _ (by omega)
                      have HMD := hid' (fun W : World => made_stamps W n (by omega))
                      have HM2 := hid' (fun o : Obj => made_second w8 o n (by omega))
                      have HN5 := hid' hn4
                      have y1 := HT8.out.kx.cells.2.1
                      have y2 := HT8.out.kx.cells.2.2.1
                      have d1 : w8.drew.cell? ⟨xb, 1, none⟩ = some (.int .i64 td.day) := y1
                      have d2 : w8.drew.cell? ⟨xb, 2, none⟩ = some (.int .i64 td.n) := y2
                      have a1 := fun o => alloc_cell y1 o
                      have a2 := fun o => alloc_cell y2 o
                      have a3 := fun o o' => alloc_cell (alloc_cell y1 o) o'
                      have a4 := fun o o' => alloc_cell (alloc_cell y2 o) o'
                      go_upto_region 19 with (fail)
                      go_cut [12] (fun v wx => v = .slice (some ⟨sg2, 0, none⟩) n sc ∧ ∃ (wn : World) (g5 c5 : Nat), wn = wx ∧ RTk w zb xb kb td ⟨⟨x.kn.name, x.kn.key, x.kn.seq, x.kn.stamps ++ [(td.day, td.n)]⟩, .slice (some ⟨g5, 0, none⟩) (n + 1) c5⟩ wn ∧ StampRow w.heap.size wn (.slice (some ⟨g5, 0, none⟩) (n + 1) c5) (x.kn.stamps ++ [(td.day, td.n)]))
                      case first =>
                        have HCT := hid' (stamps_cells ((HH.out.below HT8.out.bel).st x (List.mem_of_getElem? HX.out.1)) HSV.out)
                        go_region_law (first | (refine step_stamps rfl _ _ (by rfl) w8.heap.size _ [] x.kn.stamps (by rfl) (by first | exact HMD.out _ | exact World.ownsRow.alloc (HMD.out _) _ | exact HM2.out _) ⟨sg2, 0, none⟩ _ _ HN.out.symm (by rfl) (HCT.out _ (by first | exact (Below.refl _ _).drew.alloc (Nat.le_refl _) _ | exact ((Below.refl _ _).drew.alloc (Nat.le_refl _) _).alloc (by (try simp) <;> omega) _)) (by rw [← HN.out]; have := HN5.out; simp; omega) (by (try simp) <;> omega) ?_; intro v' w9 h5 h6; have hb9 := Below.grown (B := w8.heap.size) (a := w8) (by first | exact (Below.refl _ _).drew.alloc (Nat.le_refl _) _ | exact ((Below.refl _ _).drew.alloc (Nat.le_refl _) _).alloc (by (try simp) <;> omega) _) h6 (by (try simp) <;> omega) (fun k e => by cases e; first | exact Nat.le_refl _ | simp); have z1 := (HT8.out.below hb9).kx.cells.2.1; have z2 := (HT8.out.below hb9).kx.cells.2.2.1; obtain ⟨vp9, vc9, hv9, _⟩ := StampRow.form h5; subst hv9) | (refine step_stamp rfl _ _ (by rfl) w8.heap.size _ x.kn.stamps (by rfl) (by exact World.ownsRow.alloc h5 _) w9.heap.size (by rfl) (.int .i64 td.day) (.int .i64 td.n) (by exact heap_alloc_new w9 _) rfl rfl (by rw [← HN.out]; have := HN5.out; omega) (by have := hb9.size; simp; omega) ?_; intro g5 c5 w10 h7 h8 h9; have hb10 := Below.grown (B := w8.heap.size) (a := w8) (hb9.alloc hb9.size _) h8 (by have := hb9.size; simp; omega) (fun k e => (World.ownsRow.lt h5 k e).1); have m1 := (block_cells (HT8.out.below hb10).kk).1 1 _ rfl; have m2 := (block_cells (HT8.out.below hb10).kk).2 1) | (refine step_stamp rfl _ _ (by rfl) w8.heap.size _ x.kn.stamps (by rfl) (by exact h5) (w8.heap.size + 1) (by rfl) (.int .i64 td.day) (.int .i64 td.n) (by exact built_after h6) rfl rfl (by rw [← HN.out]; have := HN5.out; omega) hb9.size ?_; intro g5 c5 w10 h7 h8 h9; have hb10 := Below.grown (B := w8.heap.size) (a := w8) hb9 h8 hb9.size (fun k e => (World.ownsRow.lt h5 k e).1); have m1 := (block_cells (HT8.out.below hb10).kk).1 1 _ rfl; have m2 := (block_cells (HT8.out.below hb10).kk).2 1) | (refine step_stamp rfl _ _ (by rfl) w8.heap.size _ x.kn.stamps (by rfl) (by exact h5) w8.heap.size (by rfl) (.int .i64 td.day) (.int .i64 td.n) (by exact built_before h6) rfl rfl (by rw [← HN.out]; have := HN5.out; omega) hb9.size ?_; intro g5 c5 w10 h7 h8 h9; have hb10 := Below.grown (B := w8.heap.size) (a := w8) hb9 h8 hb9.size (fun k e => (World.ownsRow.lt h5 k e).1); have m1 := (block_cells (HT8.out.below hb10).kk).1 1 _ rfl; have m2 := (block_cells (HT8.out.below hb10).kk).2 1))
                        all_goals
                          go_wp2_with fail
                          go_meet
                          rw [← HN.out] at h7 ⊢
                          refine ⟨rfl, _, g5, c5, rfl, (HT8.out.below hb10).setStamps _ _, ?_⟩
                          have h7' : StampRow w8.heap.size w10 (.slice (some ⟨g5, 0, none⟩) (n + 1) c5) (x.kn.stamps ++ [(td.day, td.n)]) := by
                            show World.ownsRow w10 w8.heap.size _ 2 _ (x.kn.stamps ++ [(td.day, td.n)]).length (stampCells (x.kn.stamps ++ [(td.day, td.n)]))
                            rw [List.length_append, stampCells_append, ← HN.out]
                            exact h7
                          exact ownsRow_less (h7'.same fun k hk => setCell_other _ _ _ _ (row_block_ne h7' (HT8.out.below hb10).kk k hk)) HT8.out.bel.size
                      case rest =>
                        obtain ⟨rfl, w11, g5, c5, rfl, ht11, hrow⟩ := hcut
                        have HT11 := hid' ht11
                        have HROW := hid' hrow
                        have q3 := HT11.out.kx.cells.2.2.2.1
                        have m3 := (block_cells HT11.out.kk).1 3 _ rfl
                        have mf := (block_cells HT11.out.kk).2 3
                        have HC0 := hid' (show Orc.tkCode (R.map (·.kn)) td today = 0 by rw [HCF.out, if_neg (by rw [← HN.out]; exact HZZ.out)])
                        clear ht11 hrow y1 y2 d1 d2 a1 a2 a3 a4 hmk
                        go_upto_region 21 with (fail)
                        have HT12 := hid' (HT11.out.setSeq td.seq)
                        have HROW2 := hid' (show StampRow w.heap.size (w11.setCell ⟨kb, 3, none⟩ (.int .i64 td.seq)) (.slice (some ⟨g5, 0, none⟩) (n + 1) c5) (x.kn.stamps ++ [(td.day, td.n)]) from HROW.out.same fun k hk => setCell_other _ _ _ _ (row_block_ne HROW.out HT11.out.kk k hk))
                        clear q3 m3 mf
                        generalize w11.setCell ⟨kb, 3, none⟩ (.int .i64 td.seq) = w12 at *
                        obtain ⟨cc, _⟩ := block_cells HT12.out.kk
                        have m0 := cc 0 _ rfl
                        have m1 := cc 1 _ rfl
                        have m2 := cc 2 _ rfl
                        have m3 := cc 3 _ rfl
                        have h12 := HH.out.below HT12.out.bel
                        have c0 := (block_cells h12.hb).1 0 _ rfl
                        obtain ⟨lp2, lc2, elv, _, hcell2⟩ := h12.form
                        obtain ⟨g', eg, _, k0, k1, k2, k3, kf⟩ := hcell2 i x HX.out.1
                        obtain rfl : g = g' := by
                          have e1 := (Value.slice.inj elv).1
                          rw [eg] at e1
                          simpa using e1
                        have f0 := kf (i * 4)
                        have f1 := kf (i * 4 + 1)
                        have f2 := kf (i * 4 + 2)
                        have f3 := kf (i * 4 + 3)
                        clear cc hcell2 elv eg kf h12
                        go_still_tail 7, (by kernel_rfl)
                        change wpList _ _ _ _ _ w12.drew
                        go_upto_region 22 with (fail)
                        clear m0 m1 m2 m3 k0 k1 k2 k3 f0 f1 f2 f3 c0
                        have hgl : g < w.heap.size := (HH.out.foot (.inr (.inl rfl))).2
                        have hzg : zb ≠ g ∧ xb ≠ g := ⟨by have := HT12.out.lo.1; omega, by have := HT12.out.lo.2.1; omega⟩
                        have hput := HH.out.put HBS.out (W := w12) HT12.out.bel HX.out.1 (y := ⟨Orc.tkKn x.kn td, .slice (some ⟨g5, 0, none⟩) (n + 1) c5⟩) rfl (kn_fits HXF.out HD.out (by rw [← HN.out]; exact HZZ.out)) HROW2.out
                        have hz13 : (((((w12.setCell ⟨g, i * 4, none⟩ (.string x.kn.name)).setCell ⟨g, i * 4 + 1, none⟩ (.slice (some ⟨g5, 0, none⟩) (n + 1) c5)).setCell ⟨g, i * 4 + 2, none⟩ (.string x.kn.key)).setCell ⟨g, i * 4 + 3, none⟩ (.int .i64 td.seq)).drew).heap[zb]? = _ := (setCell_other _ _ _ _ hzg.1).trans ((setCell_other _ _ _ _ hzg.1).trans ((setCell_other _ _ _ _ hzg.1).trans ((setCell_other _ _ _ _ hzg.1).trans (show w12.heap[zb]? = _ from HT12.out.kr))))
                        have hx13 : TipBox (((((w12.setCell ⟨g, i * 4, none⟩ (.string x.kn.name)).setCell ⟨g, i * 4 + 1, none⟩ (.slice (some ⟨g5, 0, none⟩) (n + 1) c5)).setCell ⟨g, i * 4 + 2, none⟩ (.string x.kn.key)).setCell ⟨g, i * 4 + 3, none⟩ (.int .i64 td.seq)).drew) xb td := (setCell_other _ _ _ _ hzg.2).trans ((setCell_other _ _ _ _ hzg.2).trans ((setCell_other _ _ _ _ hzg.2).trans ((setCell_other _ _ _ _ hzg.2).trans (show w12.heap[xb]? = _ from HT12.out.kx))))
                        have HPUT := hid' hput
                        have HZ13 := hid' hz13
                        have HX13 := hid' hx13
                        clear hput hz13 hx13 hgl hzg
                        replace HPUT := hid' (show RfStep base rb _ R _ w (((((w12.setCell ⟨g, i * 4, none⟩ (.string x.kn.name)).setCell ⟨g, i * 4 + 1, none⟩ (.slice (some ⟨g5, 0, none⟩) (n + 1) c5)).setCell ⟨g, i * 4 + 2, none⟩ (.string x.kn.key)).setCell ⟨g, i * 4 + 3, none⟩ (.int .i64 td.seq)).drew) from HPUT.out.more ((Below.refl _ _).drew))
                        generalize (((((w12.setCell ⟨g, i * 4, none⟩ (.string x.kn.name)).setCell ⟨g, i * 4 + 1, none⟩ (.slice (some ⟨g5, 0, none⟩) (n + 1) c5)).setCell ⟨g, i * 4 + 2, none⟩ (.string x.kn.key)).setCell ⟨g, i * 4 + 3, none⟩ (.int .i64 td.seq)).drew) = w13 at *
                        obtain ⟨r0, r1, r2, r3, r4, f0, f1, f2, f3, f4⟩ := zero_cells HZ13.out
                        obtain ⟨x0, x1, x2, x3, x4, _⟩ := HX13.out.cells
                        have HOK := hid' (tf_ok HTD.out HD.out HX.out.2.2 HC0.out)
                        go_wp2_with fail
                        refine bodyPost_ret (v := .tuple #[.agg #[.string td.feed, .int .i64 td.day, .int .i64 td.n, .int .i64 td.seq, .string td.tag], .int .i64 0]) ?_ rfl ?_
                        · simp [results, Tryz.results21, go_sem, r0, r1, r2, r3, r4]
                        · obtain ⟨e1, e2, e3⟩ := HOK.out
                          refine ⟨by rw [e1, e2], ?_⟩
                          rw [e3, ← HX.out.2.1]
                          exact HPUT.out.after (five_same w13 zb _ _ _ _ _) HZL.out HZ13.out
          · rw [decide_eq_false hst]
            have HC := hid' (show Orc.tfCode (R.map (·.kn)) l today = 212 by rw [HTC.out, HKC.out, if_pos (by rw [← hsg.out]; exact hst)])
            clear hst
            obtain ⟨r0, r1, r2, r3, r4, f0, f1, f2, f3, f4⟩ := zero_cells HT6.out.kr
            go_wp2_with fail
            refine bodyPost_ret (v := .tuple #[.agg #[.string ⟨#[]⟩, .int .i64 0, .int .i64 0, .int .i64 0, .string ⟨#[]⟩], .int .i64 212]) ?_ rfl ?_
            · simp [results, Tryz.results21, go_sem, r0, r1, r2, r3, r4]
            · exact RTakeOut.bad HH.out HC.out (by decide) (five_below HT6.out.bel HZL.out _ _ _ _ _)
end Go.Proofs.YtmddaomchhigbaaGreatDoor
