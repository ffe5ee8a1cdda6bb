/- Proved: the reference's Decode as a contract: what bytes are read as. -/
import Derived.Test.YtmmbhmlhenpgbaaDoorLedDec2
import Derived.Test.YtmmbhmlhenpgbaaDoorRefTakeWalk
import Derived.Test.YtmmbhmlhenpgbaaDoorRefRight
namespace Go.Proofs.YtmmbhmlhenpgbaaDoor
open Go.RowKit
open Led
set_option linter.unusedVariables false
set_option linter.unusedSimpArgs false
set_option maxRecDepth 100000
/-- The reference's own blocks: the result; the posting, its legs. -/
structure RefD (w : World) (rb pb : Nat) (day id : Int) (lv : Value) (L : List Leg) (W : World) : Prop where
  bel : Below w.heap.size w W
  kr : W.heap[rb]? = some (.cells #[.int .i64 0, .int .i64 0, .slice none 0 0] 24 (0, 0))
  kp : W.heap[pb]? = some (.cells #[.int .i64 day, .int .i64 id, lv] 24 (0, 0))
  own : LegRow (pb + 1) W lv L
  hr : rb = w.heap.size
  hp : rb < pb
theorem RefD.below {w : World} {rb pb : Nat} {day id : Int} {lv : Value} {L : List Leg} {W W' : World} (h : RefD w rb pb day id lv L W) (B : Below W.heap.size W W') : RefD w rb pb day id lv L W' :=
  ⟨Below.more h.bel B, (B.block _ (lt_of_block h.kr)).trans h.kr, (B.block _ (lt_of_block h.kp)).trans h.kp, h.own.ofBlock (fun k _ hk => B.block k hk), h.hr, h.hp⟩
theorem RefD.append {w : World} {rb pb : Nat} {day id : Int} {lv v' : Value} {L : List Leg} {W W' : World} {y : Leg} (h : RefD w rb pb day id lv L W) (h1 : LegRow (pb + 1) W' v' (L ++ [y])) (h2 : W.grownBy W' lv.ownBlock) :
    W'.cell? ⟨pb, 2, none⟩ = some lv ∧ W'.frozen? ⟨pb, 2, none⟩ = false ∧ RefD w rb pb day id v' (L ++ [y]) (W'.setCell ⟨pb, 2, none⟩ v') := by
  have hp := h.hp
  have hrr := h.hr
  have hlt := lt_of_block h.kp
  have hr : ∀ k, lv.ownBlock = some k → pb + 1 ≤ k := fun k e => (World.ownsRow.lt h.own k e).1
  have hkp : W'.heap[pb]? = some (.cells #[.int .i64 day, .int .i64 id, lv] 24 (0, 0)) := (h2.block pb hlt (fun e => by have := hr pb e.symm; omega)).trans h.kp
  have hkr : W'.heap[rb]? = some (.cells #[.int .i64 0, .int .i64 0, .slice none 0 0] 24 (0, 0)) := (h2.block rb (by omega) (fun e => by have := hr rb e.symm; omega)).trans h.kr
  refine ⟨by simp [World.cell?, hkp], by simp [World.frozen?, hkp], ⟨(h.bel.grown h2 (by have := h.bel.size; omega) (fun k e => by have := hr k e; omega)).setCell (p := ⟨pb, 2, none⟩) (by show w.heap.size ≤ pb; omega) _, ?_, ?_, ?_, hrr, hp⟩⟩
  · rw [Below.heap_setCell _ _ _ _ (by show rb ≠ pb; omega)]; exact hkr
  · exact heap_setCell_same _ _ _ _ _ _ hkp
  · exact h1.ofBlock (fun k hk _ => Below.heap_setCell _ _ _ _ (by show k ≠ pb; omega))
/-- 'append(v, leg)' outside a drawn region. -/
theorem append_leg {w : World} {ops : Array Oper} {rest : List Oper} {o : Oper} {a : Act} {Q : Exit → Act → World → Prop} (hgd : o.guard = none) (s x : Operand)
    (ho : o.op = .call { callee := .builtin .append, args := #[s, x], argTypes := #[22, 22] })
    (base : Nat) (v : Value) (L : List Leg) (hs : a.eval s = v) (hown : LegRow base w v L) (y : Leg) (hx : a.eval x = .slice (some ⟨w.heap.size, 0, none⟩) 1 1)
    (hbound : L.length + 1 ≤ 1000) (hbase : base ≤ w.heap.size)
    (h : ∀ v' w', LegRow base w' v' (L ++ [y]) → w.grownBy w' v.ownBlock → wpList Tryd.prog ops Q rest (a.put o.dst v') w') :
    wpList Tryd.prog ops Q (o :: rest) a (w.alloc (.cells #[.string y.party, .string y.cur, .int .i64 y.amount] 41)) := by
  obtain ⟨i, hi, hz, hsz, hby⟩ := info_parts info_leg
  refine wpList_append_own _ hgd s x 22 ho base 41 i _ 3 40 Tryd.underlying22 hi hz hsz hby rfl (by decide) v L.length _ hs (hown.alloc _) ⟨w.heap.size, 0, none⟩ 1 1 [.string y.party, .string y.cur, .int .i64 y.amount] hx rfl
    (fun j u hj => ?_) (fun u hu => ?_) (by unfold maxLen; omega) (by omega) (by simp; omega) (fun v' w' h1 h2 _ => h v' w' ?_ (grown_trans' (World.grownBy_alloc w _ _) h2))
  · rw [add_is, World.cell?_alloc_new, Nat.zero_add, ← hj]
    simp
  · simp only [List.mem_cons, List.not_mem_nil, or_false] at hu
    rcases hu with rfl | rfl | rfl <;> rfl
  · show World.ownsRow w' base _ 3 v' (L ++ [y]).length (legCells (L ++ [y]))
    rw [List.length_append, legCells_append]
    exact h1
theorem refdec_bad {l : List UInt8} {w W : World} {rb : Nat} (h : dec l = none) (hb : Below w.heap.size w W) (hB : w.heap.size ≤ rb) {x y z : Value} : DecPost l w (.returned (.tuple #[.agg #[.int .i64 0, .int .i64 0, .slice none 0 0], .int .i64 200])) (((W.setCell ⟨rb, 0, none⟩ x).setCell ⟨rb, 1, none⟩ y).setCell ⟨rb, 2, none⟩ z) := by
  refine ⟨.slice none 0 0, by unfold decOf; rw [h], ?_, three_below hb hB _ _ _⟩
  unfold decOf; rw [h]; exact Or.inl ⟨⟨_, rfl⟩, rfl⟩
/-- How far the reference's loop has come. -/
structure RefP (l : List UInt8) (c i : Nat) (L : List Leg) (a : Nat) : Prop where
  eq : takeLegs i l c = some (L, a)
  len : L.length = i
  fits : ∀ x ∈ L, Fits x
theorem RefP.step {l : List UInt8} {c i : Nat} {L : List Leg} {a : Nat} (h : RefP l c i L a) (hg : legG l a = true) : RefP l c (i + 1) (L ++ [legV l a]) (legN l a) := by
  refine ⟨?_, by simp [h.len], fun x hx => ?_⟩
  · rw [takeLegs_snoc, h.eq, Option.bind_some, takeLeg_is, if_pos hg]; rfl
  · rw [List.mem_append] at hx
    rcases hx with hx | hx
    · exact h.fits x hx
    · simp at hx; subst hx; exact legV_fits l a
theorem RefP.dies {l : List UInt8} {c i : Nat} {L : List Leg} {a : Nat} {day id n : Int} (h : RefP l c i L a) (ht : takeHead l = some (day, id, n, c)) (hi : (i : Int) < n) (hg : legG l a = false) : dec l = none := by
  refine dec_dies ht (i := i + 1) (by omega) ?_
  rw [takeLegs_snoc, h.eq, Option.bind_some, takeLeg_is, if_neg (by rw [hg]; simp)]; rfl
theorem refdec_good {l : List UInt8} {w W : World} {rb pb : Nat} {day id : Int} {L : List Leg} {lv : Value} (h : dec l = some ⟨day, id, L⟩) (hd : RefD w rb pb day id lv L W) (hf : ∀ x ∈ L, Fits x) {x y z : Value} : DecPost l w (.returned (.tuple #[.agg #[.int .i64 day, .int .i64 id, lv], .int .i64 0])) (((W.setCell ⟨rb, 0, none⟩ x).setCell ⟨rb, 1, none⟩ y).setCell ⟨rb, 2, none⟩ z) := by
  have hr := hd.hr
  have hp := hd.hp
  refine ⟨lv, by unfold decOf; rw [h], ?_, three_below hd.bel (by omega) _ _ _⟩
  unfold decOf; rw [h]
  refine LegRow.legs (LegRow.ofBlock hd.own fun k hk _ => ?_) hf
  rw [Below.heap_setCell _ _ _ _ (by show k ≠ rb; omega), Below.heap_setCell _ _ _ _ (by show k ≠ rb; omega), Below.heap_setCell _ _ _ _ (by show k ≠ rb; omega)]
theorem head_none1 {l : List UInt8} (h : numOk l 0 = false) : dec l = none := dec_none (by rw [takeHead_is, if_neg]; unfold headG; rw [h]; simp)
theorem head_none2 {l : List UInt8} (h : numOk l (numN l 0) = false) : dec l = none := dec_none (by rw [takeHead_is, if_neg]; unfold headG; rw [h]; simp)
theorem head_none3 {l : List UInt8} (h : numOk l (numN l (numN l 0)) = false) : dec l = none := dec_none (by rw [takeHead_is, if_neg]; unfold headG; rw [h]; simp)
theorem head_some {l : List UInt8} (h1 : numOk l 0 = true) (h2 : numOk l (numN l 0) = true) (h3 : numOk l (numN l (numN l 0)) = true) : takeHead l = some (numV l 0, numV l (numN l 0), numV l (numN l (numN l 0)), numN l (numN l (numN l 0))) := by
  rw [takeHead_is, if_pos]; unfold headG; rw [h1, h2, h3]; rfl
theorem dec_count {l : List UInt8} {day id n : Int} {c : Nat} (h : takeHead l = some (day, id, n, c)) (hn : n < 0 ∨ 64 < n) : dec l = none := by
  unfold dec; rw [h]; simp only []; rw [if_pos hn]
theorem RefD.cells {w : World} {rb pb : Nat} {day id : Int} {lv : Value} {L : List Leg} {W : World} (h : RefD w rb pb day id lv L W) :
    W.cell? ⟨rb, 0, none⟩ = some (.int .i64 0) ∧ W.cell? ⟨rb, 1, none⟩ = some (.int .i64 0) ∧ W.cell? ⟨rb, 2, none⟩ = some (.slice none 0 0) ∧ ∀ o, W.frozen? ⟨rb, o, none⟩ = false := cells_of3 h.kr
set_option maxHeartbeats 4000000 in
theorem refDecode_any (v0 : Value) (l : List UInt8) (w : World) (h : Reads w v0 (nums l)) (hl : l.length ≤ 140737488355300) :
    Calls Tryd.prog 14 #[v0] w (DecPost l w) := by
  have HRI := hid' (fun (a : Nat) (W : World) (hb : Below w.heap.size w W) => refTakeInt_any v0 l (a : Int) W (h.below hb) hl)
  have HRT := hid' (fun (a : Nat) (W : World) (hb : Below w.heap.size w W) => refTakeText_any v0 l (a : Int) 24 W (h.below hb) hl (by omega))
  simp only [takenI_is] at HRI
  simp only [takenS_is] at HRT
  obtain ⟨p0, c0, rfl⟩ := h.len
  rw [nums_length] at *
  have l2 : (l.length : Int) ≤ 140737488355300 := by omega
  clear h hl
  go_enter Tryd.func14, Tryd.ntmps14
  go_wp2_with fail
  obtain ⟨rb, er⟩ : ∃ b, b = w.heap.size := ⟨_, rfl⟩
  rw [← er]
  have HRB := hid' (show w.heap.size ≤ rb by omega)
  have HRE := hid' er
  have hk0 := heap_alloc_new w (.cells #[.int .i64 0, .int .i64 0, .slice none 0 0] 24)
  rw [← er] at hk0
  have hb0 : Below w.heap.size w (w.alloc (.cells #[.int .i64 0, .int .i64 0, .slice none 0 0] 24)) := (Below.refl _ _).alloc (Nat.le_refl _) _
  generalize w.alloc (.cells #[.int .i64 0, .int .i64 0, .slice none 0 0] 24) = W0 at *
  clear er
  refine (HRI.out 0 W0 hb0).mono ?_
  rintro e w1 ⟨rfl, b1⟩
  have hb1 := Below.more hb0 b1
  have hk1 := (b1.block _ (lt_of_block hk0)).trans hk0
  clear hb0 b1 hk0
  go_wp2_with fail
  refine (HRI.out (numN l 0) w1 hb1).mono ?_
  rintro e w2 ⟨rfl, b1⟩
  have hb2 := Below.more hb1 b1
  have hk2 := (b1.block _ (lt_of_block hk1)).trans hk1
  clear hb1 b1 hk1
  go_wp2_with fail
  refine (HRI.out (numN l (numN l 0)) w2 hb2).mono ?_
  rintro e w3 ⟨rfl, b1⟩
  have HB3 := hid' (Below.more hb2 b1)
  have HK3 := hid' ((b1.block _ (lt_of_block hk2)).trans hk2)
  clear hb2 b1 hk2
  have hn1 := numV_in l (numN l (numN l 0))
  obtain ⟨r0, r1, r2, rf⟩ := cells_of3 HK3.out
  have rf0 := rf 0
  have rf1 := rf 1
  have rf2 := rf 2
  clear rf
  cases o1 : numOk l 0 with
  | false =>
    have HE := hid' (head_none1 o1)
    clear o1
    go_wp2_with fail
    refine bodyPost_ret (v := .tuple #[.agg #[.int .i64 0, .int .i64 0, .slice none 0 0], .int .i64 200]) ?_ rfl ?_
    · simp [results, Tryd.results14, go_sem, r0, r1, r2]
    · exact refdec_bad HE.out HB3.out HRB.out
  | true =>
    cases o2 : numOk l (numN l 0) with
    | false =>
      have HE := hid' (head_none2 o2)
      clear o1 o2
      go_wp2_with fail
      refine bodyPost_ret (v := .tuple #[.agg #[.int .i64 0, .int .i64 0, .slice none 0 0], .int .i64 200]) ?_ rfl ?_
      · simp [results, Tryd.results14, go_sem, r0, r1, r2]
      · exact refdec_bad HE.out HB3.out HRB.out
    | true =>
      cases o3 : numOk l (numN l (numN l 0)) with
      | false =>
        have HE := hid' (head_none3 o3)
        clear o1 o2 o3
        go_wp2_with fail
        refine bodyPost_ret (v := .tuple #[.agg #[.int .i64 0, .int .i64 0, .slice none 0 0], .int .i64 200]) ?_ rfl ?_
        · simp [results, Tryd.results14, go_sem, r0, r1, r2]
        · exact refdec_bad HE.out HB3.out HRB.out
      | true =>
        have HT := hid' (head_some o1 o2 o3)
        clear o1 o2 o3
        obtain ⟨n, hn⟩ : ∃ n, Hid (n = numV l (numN l (numN l 0))) := ⟨_, rfl⟩
        rw [← hn.out] at hn1 HT ⊢
        generalize numN l (numN l (numN l 0)) = c3 at *
        by_cases n1 : n < 0
        · have HE := hid' (dec_count HT.out (Or.inl n1))
          go_wp2_with fail
          refine bodyPost_ret (v := .tuple #[.agg #[.int .i64 0, .int .i64 0, .slice none 0 0], .int .i64 200]) ?_ rfl ?_
          · simp [results, Tryd.results14, go_sem, r0, r1, r2]
          · exact refdec_bad HE.out HB3.out HRB.out
        · by_cases n2 : 64 < n
          · have HE := hid' (dec_count HT.out (Or.inr n2))
            go_wp2_with fail
            refine bodyPost_ret (v := .tuple #[.agg #[.int .i64 0, .int .i64 0, .slice none 0 0], .int .i64 200]) ?_ rfl ?_
            · simp [results, Tryd.results14, go_sem, r0, r1, r2]
            · exact refdec_bad HE.out HB3.out HRB.out
          · obtain ⟨k, rfl⟩ := Int.eq_ofNat_of_zero_le (by omega : 0 ≤ n)
            have hk : k ≤ 64 := by omega
            have hk' : (k : Int) ≤ 64 := by omega
            have g1 : decide ((k : Int) < 0) = false := by simp
            have g2 : decide (64 < (k : Int)) = false := by simp; omega
            have g3 : decide (64 < k) = false := by simp; omega
            clear n1 n2 hn1 r0 r1 r2 rf0 rf1 rf2
            go_wp2_with fail
            obtain ⟨pb, hpb⟩ : ∃ b, b = w3.heap.size := ⟨_, rfl⟩
            have HD0 := hid' (show RefD w rb pb (numV l 0) (numV l (numN l 0)) (.slice none 0 0) [] (w3.alloc (.cells #[.int .i64 (numV l 0), .int .i64 (numV l (numN l 0)), .slice none 0 0] 24)) by
              have hlt := lt_of_block HK3.out
              refine ⟨HB3.out.trans ((Below.refl _ _).alloc HB3.out.size _), ?_, ?_, LegRow.nil _ _, HRE.out, by omega⟩
              · rw [Below.heap_alloc _ _ _ hlt]; exact HK3.out
              · rw [hpb]; exact heap_alloc_new _ _)
            rw [← hpb]
            generalize w3.alloc (.cells #[.int .i64 (numV l 0), .int .i64 (numV l (numN l 0)), .slice none 0 0] 24) = W4 at *
            clear hpb HB3 HK3
            have HP0 := hid' (show RefP l c3 0 [] c3 from ⟨rfl, rfl, fun x hx => by simp at hx⟩)
            go_loopw [5, 14] (fun av iv wr => ∃ (i : Nat) (L : List Leg) (lv : Value) (a : Nat), iv = .int .i64 (i : Int) ∧ av = .int .i64 (a : Int) ∧ i ≤ k ∧ Hid (RefD w rb pb (numV l 0) (numV l (numN l 0)) lv L wr) ∧ Hid (RefP l c3 i L a)) (fun _ iv _ => k - (intOf iv).toNat)
            case atStart => exact ⟨0, [], _, c3, rfl, rfl, Nat.zero_le _, HD0, HP0⟩
            case round =>
              obtain ⟨i, L, lv, a, rfl, rfl, hik, HD, HP⟩ := hrel
              by_cases hi : i < k
              · have g4 : decide ((i : Int) < (k : Int)) = true := by simp; omega
                have HI := hid' hi
                have HLN := hid' (show L.length + 1 ≤ 1000 by rw [HP.out.len]; omega)
                clear hi
                go_wp2_with fail
                refine (HRT.out a _ HD.out.bel).mono ?_
                rintro e w5 ⟨rfl, b5⟩
                have HD5 := hid' (HD.out.below b5)
                clear b5 HD
                cases t1 : txtOk l a with
                | false =>
                  have HE := hid' (HP.out.dies HT.out (by have := HI.out; omega) (show legG l a = false by unfold legG; rw [t1]; rfl))
                  clear t1
                  obtain ⟨r0, r1, r2, rf⟩ := HD5.out.cells
                  have rf0 := rf 0
                  have rf1 := rf 1
                  have rf2 := rf 2
                  clear rf
                  go_wp2_with fail
                  refine bodyPost_ret (v := .tuple #[.agg #[.int .i64 0, .int .i64 0, .slice none 0 0], .int .i64 200]) ?_ rfl ?_
                  · simp [results, Tryd.results14, go_sem, r0, r1, r2]
                  · exact refdec_bad HE.out HD5.out.bel HRB.out
                | true =>
                  go_wp2_with fail
                  refine (HRT.out (txtN l a) _ HD5.out.bel).mono ?_
                  rintro e w6 ⟨rfl, b6⟩
                  have HD6 := hid' (HD5.out.below b6)
                  clear b6 HD5
                  cases t2 : txtOk l (txtN l a) with
                  | false =>
                    have HE := hid' (HP.out.dies HT.out (by have := HI.out; omega) (show legG l a = false by unfold legG; rw [t2]; simp))
                    clear t1 t2
                    obtain ⟨r0, r1, r2, rf⟩ := HD6.out.cells
                    have rf0 := rf 0
                    have rf1 := rf 1
                    have rf2 := rf 2
                    clear rf
                    go_wp2_with fail
                    refine bodyPost_ret (v := .tuple #[.agg #[.int .i64 0, .int .i64 0, .slice none 0 0], .int .i64 200]) ?_ rfl ?_
                    · simp [results, Tryd.results14, go_sem, r0, r1, r2]
                    · exact refdec_bad HE.out HD6.out.bel HRB.out
                  | true =>
                    go_wp2_with fail
                    refine (HRI.out (txtN l (txtN l a)) _ HD6.out.bel).mono ?_
                    rintro e w7 ⟨rfl, b7⟩
                    have HD7 := hid' (HD6.out.below b7)
                    clear b7 HD6
                    cases t3 : numOk l (txtN l (txtN l a)) with
                    | false =>
                      have HE := hid' (HP.out.dies HT.out (by have := HI.out; omega) (show legG l a = false by unfold legG; rw [t3]; simp))
                      clear t1 t2 t3
                      obtain ⟨r0, r1, r2, rf⟩ := HD7.out.cells
                      have rf0 := rf 0
                      have rf1 := rf 1
                      have rf2 := rf 2
                      clear rf
                      go_wp2_with fail
                      refine bodyPost_ret (v := .tuple #[.agg #[.int .i64 0, .int .i64 0, .slice none 0 0], .int .i64 200]) ?_ rfl ?_
                      · simp [results, Tryd.results14, go_sem, r0, r1, r2]
                      · exact refdec_bad HE.out HD7.out.bel HRB.out
                    | true =>
                      have HP2 := hid' (HP.out.step (show legG l a = true by unfold legG; rw [t1, t2, t3]; rfl))
                      clear t1 t2 t3
                      have kpc := (cells_of3 HD7.out.kp).2.2.1
                      go_wp2_with (refine append_leg rfl _ _ rfl (pb + 1) lv L rfl HD7.out.own (legV l a) rfl HLN.out (lt_of_block HD7.out.kp) (fun v' w' h5 h6 => ?_); refine halt' ?_)
                      have hA := HD7.out.append h5 h6
                      obtain ⟨p5, c5, rfl⟩ := LegRow.form h5
                      have hpc := hA.1
                      have hpf := hA.2.1
                      have HQ2 := hid' hA.2.2
                      rw [show (L ++ [legV l a]).length = L.length + 1 from by simp] at HQ2
                      clear h5 h6 hA HD7 kpc
                      refine hid' ?_
                      rw [show (L ++ [legV l a]).length = L.length + 1 from by simp]
                      go_wp2_with fail
                      go_roundw
                      case rel => exact ⟨i + 1, _, _, legN l a, by go_num, rfl, HI.out, HQ2, HP2⟩
                      case measure => have := HI.out; simp [intOf]; omega
              · obtain rfl : i = k := by omega
                have g4 : decide (i < i) = false := by simp
                clear hi
                obtain ⟨pl, cl, rfl⟩ := LegRow.form HD.out.own
                obtain ⟨q0, q1, q2, _⟩ := cells_of3 HD.out.kp
                have HED := hid' (dec_ends HT.out (Or.inl (Int.le_refl _)) (Or.inl (Int.le_refl _)) (by omega) HP.out.eq HP.out.len)
                have HRG := hid' (refRight_any ⟨numV l 0, numV l (numN l 0), L⟩ (.slice pl L.length cl) wr (HD.out.own.legs HP.out.fits) (numV_in l 0) (numV_in l (numN l 0)))
                go_wp2_with fail
                refine HRG.out.mono ?_
                rintro e w9 ⟨rfl, b9⟩
                have HD9 := hid' (HD.out.below b9)
                clear HD b9 q0 q1 q2 HRG
                obtain ⟨q0, q1, q2, _⟩ := cells_of3 HD9.out.kp
                obtain ⟨r0, r1, r2, rf⟩ := HD9.out.cells
                have rf0 := rf 0
                have rf1 := rf 1
                have rf2 := rf 2
                clear rf
                by_cases ha : a = l.length
                · subst ha
                  cases hri : right ⟨numV l 0, numV l (numN l 0), L⟩ with
                  | false =>
                    have HE := hid' (show dec l = none by rw [HED.out, if_neg (by rintro ⟨_, _, h⟩; rw [hri] at h; cases h)])
                    clear hri HED
                    go_wp2_with fail
                    refine bodyPost_ret (v := .tuple #[.agg #[.int .i64 0, .int .i64 0, .slice none 0 0], .int .i64 200]) ?_ rfl ?_
                    · simp [results, Tryd.results14, go_sem, r0, r1, r2]
                    · exact refdec_bad HE.out HD9.out.bel HRB.out
                  | true =>
                    have HE := hid' (show dec l = some ⟨numV l 0, numV l (numN l 0), L⟩ by rw [HED.out, if_pos ⟨rfl, by first | rfl | trivial, hri⟩])
                    clear hri HED
                    go_wp2_with fail
                    refine bodyPost_ret (v := .tuple #[.agg #[.int .i64 (numV l 0), .int .i64 (numV l (numN l 0)), .slice pl L.length cl], .int .i64 0]) ?_ rfl ?_
                    · simp [results, Tryd.results14, go_sem, r0, r1, r2]
                    · exact refdec_good HE.out HD9.out HP.out.fits
                · have HE := hid' (show dec l = none by rw [HED.out, if_neg (by rintro ⟨h, _⟩; exact ha h)])
                  have g5 : ((a : Int) != (l.length : Int)) = true := by rw [bne_iff_ne]; omega
                  have g5' : (a != l.length) = true := by rw [bne_iff_ne]; exact ha
                  clear HED
                  go_wp2_with fail
                  refine bodyPost_ret (v := .tuple #[.agg #[.int .i64 0, .int .i64 0, .slice none 0 0], .int .i64 200]) ?_ rfl ?_
                  · simp [results, Tryd.results14, go_sem, r0, r1, r2]
                  · exact refdec_bad HE.out HD9.out.bel HRB.out
end Go.Proofs.YtmmbhmlhenpgbaaDoor
