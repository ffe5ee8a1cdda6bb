/- Proved: isDigits and Parse as contracts. Condition: the text is shorter than 4294967281 bytes. -/
import Derived.Test.YtljmokbdmfiajaaDoorNumLaws2
import Derived.Test.YtljmokbdmfiajaaDoorNumParsePlain
import Derived.Shelf.Strings.SlTrimAscii
import Derived.Laws.RangeString
namespace Go.Proofs.YtljmokbdmfiajaaDoor
open Go.RowKit
set_option linter.unusedVariables false
open Num

theorem trim_any (s : ByteArray) (w : World) (hs : s.size < 4294967281) :
    Calls Tryd.prog 47 #[.string s, .string ⟨#[48, 49, 50, 51, 52, 53, 54, 55, 56, 57]⟩] w fun e w' => e = .returned (.string ⟨(Lib.trimS s.data.toList digSet).toArray⟩) ∧ Below w.heap.size w w' :=
  Any.strings_Trim_laid Tryd.lays160 (by kernel_rfl) s ⟨#[48, 49, 50, 51, 52, 53, 54, 55, 56, 57]⟩ w (by omega) (by decide) (ascii_of_all (by decide))
theorem isDigits_any (s : ByteArray) (w : World) (hs : s.size < 4294967281) :
    Calls Tryd.prog 37 #[.string s] w fun e w' => e = .returned (.bool (isDigs s.data.toList)) ∧ Below w.heap.size w w' := by
  by_cases h0 : s = ⟨#[]⟩
  · subst h0
    rw [show isDigs (⟨#[]⟩ : ByteArray).data.toList = false from rfl]
    go_enter Tryd.func37, Tryd.ntmps37
    go_wp2_with fail
    go_ret
    exact ⟨rfl, Below.refl _ _⟩
  · have hn := nonempty_list h0
    have hl : s.data.toList.isEmpty = false := by rw [← ByteArray.toList_eq]; exact hn
    have e0 : isDigs s.data.toList = s.data.toList.all isDig := by unfold isDigs; rw [hl]; rfl
    rw [e0]
    have T := hid' (trim_nil s.data.toList)
    have HT := hid' (trim_any s w hs)
    cases hb : s.data.toList.all isDig with
    | true =>
      have hT := T.out.2 hb
      rw [hT] at HT
      clear hb e0 hT T
      go_enter Tryd.func37, Tryd.ntmps37
      go_wp2_with fail
      refine HT.out.mono ?_
      rintro e w1 ⟨rfl, b1⟩
      go_wp2_with fail
      go_ret
      exact ⟨rfl, b1⟩
    | false =>
      have hT : ¬ (⟨(Lib.trimS s.data.toList digSet).toArray⟩ : ByteArray) = ⟨#[]⟩ := by
        intro h
        have h1 : (Lib.trimS s.data.toList digSet).toArray = #[] := congrArg ByteArray.data h
        have h2 : Lib.trimS s.data.toList digSet = [] := by simpa using h1
        rw [T.out.1 h2] at hb
        cases hb
      have hTl := nonempty_list hT
      generalize (⟨(Lib.trimS s.data.toList digSet).toArray⟩ : ByteArray) = t at *
      clear hb e0 hT T
      go_enter Tryd.func37, Tryd.ntmps37
      go_wp2_with fail
      refine HT.out.mono ?_
      rintro e w1 ⟨rfl, b1⟩
      go_wp2_with fail
      go_ret
      exact ⟨rfl, b1⟩

/-- The variable MaxLen of bytealg holds an int. -/
def MaxAt (w : World) : Prop := ∃ m, w.cell? ⟨2, 0, none⟩ = some (.int .i64 m)
theorem MaxAt.size {w : World} (h : MaxAt w) : 2 < w.heap.size := by
  obtain ⟨m, h⟩ := h
  refine Decidable.byContradiction fun hc => ?_
  have : w.heap[2]? = none := Array.getElem?_eq_none (by omega)
  simp [World.cell?, this] at h
theorem MaxAt.below {w w' : World} (h : MaxAt w) (b : Below w.heap.size w w') : MaxAt w' := by
  have hs := h.size
  obtain ⟨m, h⟩ := h
  exact ⟨m, (b.cell (p := ⟨2, 0, none⟩) hs).trans h⟩
theorem cut_ba (s : ByteArray) : (⟨s.data.toList.toArray⟩ : ByteArray) = s := by cases s; simp
theorem drewN_heap (w : World) (n : Nat) : (w.drewN n).heap = w.heap := by
  induction n with
  | zero => rfl
  | succ n ih => exact ih
theorem below_drewN {w w' : World} {n : Nat} (h : Below (w.drewN n).heap.size (w.drewN n) w') : Below w.heap.size w w' := by
  rw [drewN_heap] at h
  exact (Below.drewn (Below.refl _ w) n).trans h
theorem head_ba (W : ByteArray) (h : 0 < W.size) : W.data.toList.head? = some W[0] := by
  rw [List.head?_eq_getElem?, Array.getElem?_toList]
  exact Array.getElem?_eq_getElem h
theorem digs_all {l : List UInt8} (h : isDigs l = true) : l.all isDig = true := by
  unfold isDigs at h; rw [Bool.and_eq_true] at h; exact h.2
theorem zeros (k : Nat) : ∃ Z : ByteArray, (⟨(Lib.repeatL (⟨#[48]⟩ : ByteArray).data.toList k).toArray⟩ : ByteArray) = Z ∧ Z.data.toList = noughts k ∧ Z.size = k := by
  have e : Lib.repeatL (⟨#[48]⟩ : ByteArray).data.toList k = noughts k := by
    unfold noughts
    induction k with
    | zero => rfl
    | succ k ih => rw [Lib.repeatL, ih]; rfl
  refine ⟨_, rfl, by rw [e], ?_⟩
  show (Lib.repeatL _ k).toArray.size = k
  rw [List.size_toArray, e]
  exact List.length_replicate
theorem app3 (W P Z : ByteArray) : (W ++ P ++ Z).data.toList = W.data.toList ++ P.data.toList ++ Z.data.toList := by
  simp [ByteArray.data_append]
theorem val16 (X : ByteArray) (pos : Nat) (h : X.size ≤ 16) (hd : X.data.toList.all isDig = true) : valFrom 0 (X.data.toList.take pos) < 10000000000000000 := by
  have h1 : (X.data.toList.take pos).all isDig = true := by
    rw [List.all_eq_true] at hd ⊢
    exact fun x hx => hd x (List.mem_of_mem_take hx)
  have h2 := valFrom_lt _ h1 0 0 (by omega)
  have h3 : (X.data.toList.take pos).length ≤ 16 := by
    rw [List.length_take, Array.length_toList]
    exact Nat.le_trans (Nat.min_le_right _ _) h
  have h4 : 10 ^ (0 + (X.data.toList.take pos).length) ≤ 10 ^ 16 := Nat.pow_le_pow_right (by omega) (by omega)
  omega
theorem dig_at (X : ByteArray) (pos : Nat) (h : pos < X.size) (hd : X.data.toList.all isDig = true) : 48 ≤ X[pos].toNat ∧ X[pos].toNat ≤ 57 := by
  rw [List.all_eq_true] at hd
  have := hd X[pos] (by rw [Array.mem_toList_iff]; exact Array.getElem_mem h)
  unfold isDig at this
  simpa using this
theorem val_step (X : ByteArray) (pos : Nat) (h : pos < X.size) : valFrom 0 (X.data.toList.take (pos + 1)) = 10 * valFrom 0 (X.data.toList.take pos) + (X[pos].toNat - 48) := by
  rw [List.take_succ_eq_append_getElem (by rw [Array.length_toList]; exact h), valFrom_append]
  rfl
def Parsed (p : Int × Bool) (w : World) (e : Ending) (w' : World) : Prop := e = .returned (.tuple #[.int .i64 p.1, .bool p.2]) ∧ Below w.heap.size w w'
set_option maxHeartbeats 2000000 in
theorem parse_any (s : ByteArray) (w : World) (hs : s.size ≤ 4000000000) (hm : MaxAt w) :
    Calls Tryd.prog 26 #[.string s] w (Parsed (parse s.data.toList) w) := by
  have hsl : s.data.toList.length ≤ 4000000000 := by rw [Array.length_toList]; exact hs
  obtain ⟨pp, hpp⟩ : ∃ pp, Hid (pp = parse s.data.toList) := ⟨_, rfl⟩
  have hparse : pp = parts3 (Lib.hasPrefix s.data.toList [45]) (Lib.cut (Lib.trimPrefix s.data.toList [45]) [46]).1 (Lib.cut (Lib.trimPrefix s.data.toList [45]) [46]).2.1 (Lib.cut (Lib.trimPrefix s.data.toList [45]) [46]).2.2 := hpp.out
  have C1 := Tryd.strings_CutPrefix s ⟨#[45]⟩ w
  obtain ⟨m, hcell⟩ := hm
  have ht : (Lib.trimPrefix s.data.toList [45]).length ≤ 4000000000 := by
    unfold Lib.trimPrefix
    split
    · rw [List.length_drop]; omega
    · exact hsl
  have C2 := Tryd.strings_Cut ⟨(Lib.trimPrefix s.data.toList [45]).toArray⟩ ⟨#[46]⟩ m w (by show (Lib.trimPrefix s.data.toList [45]).toArray.size < _; rw [List.size_toArray]; omega) hcell
  have hcut1 : (Lib.cut (Lib.trimPrefix s.data.toList [45]) [46]).1.length ≤ 4000000000 := by
    unfold Lib.cut; split
    · rw [List.length_take]; omega
    · exact ht
  have hcut2 : (Lib.cut (Lib.trimPrefix s.data.toList [45]) [46]).2.1.length ≤ 4000000000 := by
    unfold Lib.cut; split
    · rw [List.length_drop]; omega
    · simp
  have hnone : (Lib.cut (Lib.trimPrefix s.data.toList [45]) [46]).2.2 = false → (Lib.cut (Lib.trimPrefix s.data.toList [45]) [46]).2.1 = [] := by
    unfold Lib.cut; split
    · intro h; cases h
    · intro _; rfl
  have HC1 := hid' C1
  have HC2 := hid' C2
  clear C1 C2
  rw [show (⟨#[45]⟩ : ByteArray).data.toList = [45] from rfl] at HC1
  rw [show (⟨#[46]⟩ : ByteArray).data.toList = [46] from rfl, show (⟨(Lib.trimPrefix s.data.toList [45]).toArray⟩ : ByteArray).data.toList = Lib.trimPrefix s.data.toList [45] by simp] at HC2
  rw [show (parse s.data.toList) = pp from hpp.out.symm] 
  generalize Lib.hasPrefix s.data.toList [45] = below at *
  generalize Lib.trimPrefix s.data.toList [45] = tl at *
  generalize (Lib.cut tl [46]).1 = wh at *
  generalize (Lib.cut tl [46]).2.1 = pt at *
  generalize (Lib.cut tl [46]).2.2 = point at *
  obtain ⟨W, rfl⟩ : ∃ W : ByteArray, wh = W.data.toList := ⟨⟨wh.toArray⟩, by simp⟩
  obtain ⟨P, rfl⟩ : ∃ P : ByteArray, pt = P.data.toList := ⟨⟨pt.toArray⟩, by simp⟩
  rw [cut_ba, cut_ba] at HC2
  rw [Array.length_toList] at hcut1 hcut2
  have hW : W.size ≤ 4000000000 := hcut1
  have hP : P.size ≤ 4000000000 := hcut2
  clear hcut1 hcut2 hpp ht hs hsl hcell
  have HI1 := hid' (fun w => isDigits_any W w (by omega))
  have HI2 := hid' (fun w => isDigits_any P w (by omega))
  have hdW : (W.data.toList.length) = W.size := Array.length_toList
  have hdP : (P.data.toList.length) = P.size := Array.length_toList
  have HP := hid' hparse
  have HDW := hid' hdW
  have HDP := hid' hdP
  have HN := hid' hnone
  clear hparse hdW hdP hnone
  go_enter Tryd.func26, Tryd.ntmps26
  go_wp2_with fail
  refine HC1.out.mono ?_
  rintro e w1 ⟨rfl, rfl⟩
  go_wp2_with fail
  refine HC2.out.mono ?_
  rintro e w2 ⟨rfl, n2, rfl⟩
  go_wp2_with fail
  refine (HI1.out _).mono ?_
  rintro e w3 ⟨rfl, b3⟩
  have b3 := below_drewN b3
  clear HC1 HC2 HI1
  by_cases hb1 : isDigs W.data.toList = true
  · rw [hb1]
    by_cases hb2 : 10 < W.size
    · have hv := hid' (show pp = (0, false) by rw [HP.out, parts3, badWhole, hb1, HDW.out, decide_eq_true hb2]; rfl)
      go_wp2_with fail
      go_ret2
      exact ⟨by rw [hv.out]; rfl, b3⟩
    · by_cases hb3 : 1 < W.size
      · by_cases hb4 : W[0] = 48
        · have hv := hid' (show pp = (0, false) by rw [HP.out, parts3, badWhole, hb1, HDW.out, decide_eq_false hb2, decide_eq_true hb3, head_ba W (by omega), hb4]; rfl)
          have hb5 : (W[0].toNat : Int) = 48 := by rw [hb4]; rfl
          clear hb4
          go_wp2_with fail
          go_ret2
          exact ⟨by rw [hv.out]; rfl, b3⟩
        · have HBW := hid' (show badWhole W.data.toList = false by rw [badWhole, hb1, HDW.out, decide_eq_false hb2, decide_eq_true hb3, head_ba W (by omega)]; simp [hb4])
          have hb5 : ((W[0].toNat : Int) == 48) = false := by
            rw [beq_eq_false_iff_ne]
            intro h
            have h2 : W[0].toNat = 48 := by omega
            exact hb4 (UInt8.toNat_inj.1 h2)
          clear hb4
          cases point
          · have hPn := HN.out rfl
            have hp6 : P.size ≤ 6 := by rw [← HDP.out, hPn]; simp
            have HR := hid' (show pp = tell below (valFrom 0 (W.data.toList ++ P.data.toList ++ noughts (6 - P.size))) by rw [HP.out, parts3, HBW.out, HDP.out]; rfl)
            have HAP := hid' (show P.data.toList.all isDig = true by rw [hPn]; rfl)
            clear hPn HBW
            go_wp2_with fail
            have b4 := b3
            clear b3
            have HAW := hid' (digs_all hb1)
            have hk6 : ∃ k : Nat, P.size + k = 6 := ⟨6 - P.size, by omega⟩
            obtain ⟨k, hk⟩ := hk6
            have Ek : (6 : Int) - (P.size : Int) = (k : Int) := by omega
            have hw10 : W.size ≤ 10 := by omega
            rw [Ek]
            have hHR := HR.out
            rw [show 6 - P.size = k by omega] at hHR
            have HR := hid' hHR
            clear hHR HP HN HDW HDP HI2 hb1
            refine (Tryd.strings_Repeat ⟨#[48]⟩ k _ (by omega) (by show 1 * k ≤ _; omega)).mono ?_
            rintro e w5 ⟨rfl, b5⟩
            have b6 := b4.trans (b5.mono b4.size)
            clear b4 b5 Ek
            obtain ⟨Z, hZ, hZl, hZs⟩ := zeros k
            rw [hZ]
            clear hZ
            have z1 : ¬ (9223372036854775807 < W.size + P.size) := by omega
            have z2 : (W ++ P).size = W.size + P.size := ByteArray.size_append
            have z3 : ¬ (9223372036854775807 < W.size + P.size + Z.size) := by omega
            have HX := hid' (app3 W P Z)
            have hXs : (W ++ P ++ Z).size = W.size + P.size + Z.size := by rw [ByteArray.size_append, ByteArray.size_append]
            have HXS := hid' hXs
            clear hXs
            go_wp2_with fail
            have hx16 : (W ++ P ++ Z).size ≤ 16 := by rw [HXS.out]; omega
            have hxl := HX.out
            rw [hZl] at hxl
            rw [← hxl] at HR
            have hxd : (W ++ P ++ Z).data.toList.all isDig = true := by rw [hxl, List.all_append, List.all_append, HAW.out, HAP.out, all_noughts]; rfl
            have HXD := hid' hxd
            clear HX HXS hxl hxd z1 z2 z3 hk hZl hZs HAW HAP hw10 hp6
            generalize W ++ P ++ Z = X at *
            go_loopw [9] (fun n wr => ∃ pos : Nat, wr = w5.iter X pos ∧ pos ≤ X.size ∧ n = .int .i64 ((valFrom 0 (X.data.toList.take pos) : Nat) : Int)) (fun _ wr => X.size - wr.iterPos w5.heap.size)
            case atStart => exact ⟨0, rfl, Nat.zero_le _, rfl⟩
            case round =>
              obtain ⟨pos, rfl, hpos, rfl⟩ := hrel
              have hv16 := val16 X pos hx16 HXD.out
              by_cases hlt : pos < X.size
              · have hd := dig_at X pos hlt HXD.out
                have hst := val_step X pos hlt
                have HST := hid' hst
                have hnx : ∀ ty, (Instr.next (.pointer (some ⟨w5.heap.size, 0, none⟩)) true ty).run Tryd.prog (w5.iter X pos) = _ := fun ty => run_next_ascii w5 X pos ty hlt (by omega)
                clear hst
                generalize valFrom 0 (X.data.toList.take pos) = v at *
                obtain ⟨d1, d2⟩ := hd
                go_wp2_with fail
                go_roundw
                case rel => exact ⟨pos + 1, rfl, by omega, by rw [HST.out]; go_num⟩
                case measure => simp; omega
              · obtain rfl : pos = X.size := by omega
                have hfull : X.data.toList.take X.size = X.data.toList := List.take_of_length_le (by rw [Array.length_toList]; exact Nat.le_refl _)
                rw [hfull] at hv16 ⊢
                have hnx : ∀ ty, (Instr.next (.pointer (some ⟨w5.heap.size, 0, none⟩)) true ty).run Tryd.prog (w5.iter X X.size) = _ := fun ty => run_next_end w5 X X.size ty (by omega)
                have b7 : Below w1.heap.size w1 (w5.iter X X.size) := b6.alloc b6.size _
                clear hfull hpos hlt HXD hx16 b6
                generalize valFrom 0 X.data.toList = v at *
                by_cases hbig : 1000000000000000 < v
                · have e1 : decide ((1000000000000000 : Int) < (v : Int)) = true := by simp; omega
                  have hv := hid' (show pp = (0, false) by rw [HR.out, tell, if_pos (Or.inl hbig)])
                  clear hbig hv16
                  go_wp2_with fail
                  go_ret2
                  exact ⟨by rw [hv.out]; rfl, b7⟩
                · have e1 : decide ((1000000000000000 : Int) < (v : Int)) = false := by simp; omega
                  cases below
                  · have hv := hid' (show pp = ((v : Int), true) by rw [HR.out, tell, if_neg (by simp; omega)]; rfl)
                    clear hbig
                    go_wp2_with fail
                    go_ret2
                    exact ⟨by rw [hv.out]; rfl, b7⟩
                  · by_cases h0 : v = 0
                    · have hv := hid' (show pp = (0, false) by rw [HR.out, tell, if_pos (Or.inr ⟨rfl, h0⟩)])
                      subst h0
                      clear hbig
                      go_wp2_with fail
                      go_ret2
                      exact ⟨by rw [hv.out]; rfl, b7⟩
                    · have hv := hid' (show pp = (-(v : Int), true) by rw [HR.out, tell, if_neg (by simp; omega)]; rfl)
                      have e2 : ((v : Int) == 0) = false := by rw [beq_eq_false_iff_ne]; omega
                      clear hbig h0
                      go_wp2_with fail
                      go_ret2
                      exact ⟨by rw [hv.out]; rfl, b7⟩
          · go_wp2_with fail
            refine (HI2.out _).mono ?_
            rintro e w4 ⟨rfl, b40⟩
            have b4 := b3.trans (b40.mono b3.size)
            clear b3 b40
            by_cases hp1 : isDigs P.data.toList = true
            · rw [hp1]
              by_cases hp2 : 6 < P.size
              · have hv := hid' (show pp = (0, false) by rw [HP.out, parts3, HBW.out, badPart, hp1, HDP.out, decide_eq_true hp2]; rfl)
                go_wp2_with fail
                go_ret2
                exact ⟨by rw [hv.out]; rfl, b4⟩
              · have hp6 : P.size ≤ 6 := by omega
                have HR := hid' (show pp = tell below (valFrom 0 (W.data.toList ++ P.data.toList ++ noughts (6 - P.size))) by rw [HP.out, parts3, HBW.out, badPart, hp1, HDP.out, decide_eq_false hp2]; rfl)
                have HAP := hid' (digs_all hp1)
                clear HBW hp1 hp2
                go_wp2_with fail
                have HAW := hid' (digs_all hb1)
                have hk6 : ∃ k : Nat, P.size + k = 6 := ⟨6 - P.size, by omega⟩
                obtain ⟨k, hk⟩ := hk6
                have Ek : (6 : Int) - (P.size : Int) = (k : Int) := by omega
                have hw10 : W.size ≤ 10 := by omega
                rw [Ek]
                have hHR := HR.out
                rw [show 6 - P.size = k by omega] at hHR
                have HR := hid' hHR
                clear hHR HP HN HDW HDP HI2 hb1
                refine (Tryd.strings_Repeat ⟨#[48]⟩ k _ (by omega) (by show 1 * k ≤ _; omega)).mono ?_
                rintro e w5 ⟨rfl, b5⟩
                have b6 := b4.trans (b5.mono b4.size)
                clear b4 b5 Ek
                obtain ⟨Z, hZ, hZl, hZs⟩ := zeros k
                rw [hZ]
                clear hZ
                have z1 : ¬ (9223372036854775807 < W.size + P.size) := by omega
                have z2 : (W ++ P).size = W.size + P.size := ByteArray.size_append
                have z3 : ¬ (9223372036854775807 < W.size + P.size + Z.size) := by omega
                have HX := hid' (app3 W P Z)
                have hXs : (W ++ P ++ Z).size = W.size + P.size + Z.size := by rw [ByteArray.size_append, ByteArray.size_append]
                have HXS := hid' hXs
                clear hXs
                go_wp2_with fail
                have hx16 : (W ++ P ++ Z).size ≤ 16 := by rw [HXS.out]; omega
                have hxl := HX.out
                rw [hZl] at hxl
                rw [← hxl] at HR
                have hxd : (W ++ P ++ Z).data.toList.all isDig = true := by rw [hxl, List.all_append, List.all_append, HAW.out, HAP.out, all_noughts]; rfl
                have HXD := hid' hxd
                clear HX HXS hxl hxd z1 z2 z3 hk hZl hZs HAW HAP hw10 hp6
                generalize W ++ P ++ Z = X at *
                go_loopw [9] (fun n wr => ∃ pos : Nat, wr = w5.iter X pos ∧ pos ≤ X.size ∧ n = .int .i64 ((valFrom 0 (X.data.toList.take pos) : Nat) : Int)) (fun _ wr => X.size - wr.iterPos w5.heap.size)
                case atStart => exact ⟨0, rfl, Nat.zero_le _, rfl⟩
                case round =>
                  obtain ⟨pos, rfl, hpos, rfl⟩ := hrel
                  have hv16 := val16 X pos hx16 HXD.out
                  by_cases hlt : pos < X.size
                  · have hd := dig_at X pos hlt HXD.out
                    have hst := val_step X pos hlt
                    have HST := hid' hst
                    have hnx : ∀ ty, (Instr.next (.pointer (some ⟨w5.heap.size, 0, none⟩)) true ty).run Tryd.prog (w5.iter X pos) = _ := fun ty => run_next_ascii w5 X pos ty hlt (by omega)
                    clear hst
                    generalize valFrom 0 (X.data.toList.take pos) = v at *
                    obtain ⟨d1, d2⟩ := hd
                    go_wp2_with fail
                    go_roundw
                    case rel => exact ⟨pos + 1, rfl, by omega, by rw [HST.out]; go_num⟩
                    case measure => simp; omega
                  · obtain rfl : pos = X.size := by omega
                    have hfull : X.data.toList.take X.size = X.data.toList := List.take_of_length_le (by rw [Array.length_toList]; exact Nat.le_refl _)
                    rw [hfull] at hv16 ⊢
                    have hnx : ∀ ty, (Instr.next (.pointer (some ⟨w5.heap.size, 0, none⟩)) true ty).run Tryd.prog (w5.iter X X.size) = _ := fun ty => run_next_end w5 X X.size ty (by omega)
                    have b7 : Below w1.heap.size w1 (w5.iter X X.size) := b6.alloc b6.size _
                    clear hfull hpos hlt HXD hx16 b6
                    generalize valFrom 0 X.data.toList = v at *
                    by_cases hbig : 1000000000000000 < v
                    · have e1 : decide ((1000000000000000 : Int) < (v : Int)) = true := by simp; omega
                      have hv := hid' (show pp = (0, false) by rw [HR.out, tell, if_pos (Or.inl hbig)])
                      clear hbig hv16
                      go_wp2_with fail
                      go_ret2
                      exact ⟨by rw [hv.out]; rfl, b7⟩
                    · have e1 : decide ((1000000000000000 : Int) < (v : Int)) = false := by simp; omega
                      cases below
                      · have hv := hid' (show pp = ((v : Int), true) by rw [HR.out, tell, if_neg (by simp; omega)]; rfl)
                        clear hbig
                        go_wp2_with fail
                        go_ret2
                        exact ⟨by rw [hv.out]; rfl, b7⟩
                      · by_cases h0 : v = 0
                        · have hv := hid' (show pp = (0, false) by rw [HR.out, tell, if_pos (Or.inr ⟨rfl, h0⟩)])
                          subst h0
                          clear hbig
                          go_wp2_with fail
                          go_ret2
                          exact ⟨by rw [hv.out]; rfl, b7⟩
                        · have hv := hid' (show pp = (-(v : Int), true) by rw [HR.out, tell, if_neg (by simp; omega)]; rfl)
                          have e2 : ((v : Int) == 0) = false := by rw [beq_eq_false_iff_ne]; omega
                          clear hbig h0
                          go_wp2_with fail
                          go_ret2
                          exact ⟨by rw [hv.out]; rfl, b7⟩
            · have hp1' : isDigs P.data.toList = false := by simpa using hp1
              have hv := hid' (show pp = (0, false) by rw [HP.out, parts3, HBW.out, badPart, hp1']; rfl)
              rw [hp1']
              go_wp2_with fail
              go_ret2
              exact ⟨by rw [hv.out]; rfl, b4⟩
      · have HBW := hid' (show badWhole W.data.toList = false by rw [badWhole, hb1, HDW.out, decide_eq_false hb2, decide_eq_false hb3]; rfl)
        cases point
        · have hPn := HN.out rfl
          have hp6 : P.size ≤ 6 := by rw [← HDP.out, hPn]; simp
          have HR := hid' (show pp = tell below (valFrom 0 (W.data.toList ++ P.data.toList ++ noughts (6 - P.size))) by rw [HP.out, parts3, HBW.out, HDP.out]; rfl)
          have HAP := hid' (show P.data.toList.all isDig = true by rw [hPn]; rfl)
          clear hPn HBW
          go_wp2_with fail
          have b4 := b3
          clear b3
          have HAW := hid' (digs_all hb1)
          have hk6 : ∃ k : Nat, P.size + k = 6 := ⟨6 - P.size, by omega⟩
          obtain ⟨k, hk⟩ := hk6
          have Ek : (6 : Int) - (P.size : Int) = (k : Int) := by omega
          have hw10 : W.size ≤ 10 := by omega
          rw [Ek]
          have hHR := HR.out
          rw [show 6 - P.size = k by omega] at hHR
          have HR := hid' hHR
          clear hHR HP HN HDW HDP HI2 hb1
          refine (Tryd.strings_Repeat ⟨#[48]⟩ k _ (by omega) (by show 1 * k ≤ _; omega)).mono ?_
          rintro e w5 ⟨rfl, b5⟩
          have b6 := b4.trans (b5.mono b4.size)
          clear b4 b5 Ek
          obtain ⟨Z, hZ, hZl, hZs⟩ := zeros k
          rw [hZ]
          clear hZ
          have z1 : ¬ (9223372036854775807 < W.size + P.size) := by omega
          have z2 : (W ++ P).size = W.size + P.size := ByteArray.size_append
          have z3 : ¬ (9223372036854775807 < W.size + P.size + Z.size) := by omega
          have HX := hid' (app3 W P Z)
          have hXs : (W ++ P ++ Z).size = W.size + P.size + Z.size := by rw [ByteArray.size_append, ByteArray.size_append]
          have HXS := hid' hXs
          clear hXs
          go_wp2_with fail
          have hx16 : (W ++ P ++ Z).size ≤ 16 := by rw [HXS.out]; omega
          have hxl := HX.out
          rw [hZl] at hxl
          rw [← hxl] at HR
          have hxd : (W ++ P ++ Z).data.toList.all isDig = true := by rw [hxl, List.all_append, List.all_append, HAW.out, HAP.out, all_noughts]; rfl
          have HXD := hid' hxd
          clear HX HXS hxl hxd z1 z2 z3 hk hZl hZs HAW HAP hw10 hp6
          generalize W ++ P ++ Z = X at *
          go_loopw [9] (fun n wr => ∃ pos : Nat, wr = w5.iter X pos ∧ pos ≤ X.size ∧ n = .int .i64 ((valFrom 0 (X.data.toList.take pos) : Nat) : Int)) (fun _ wr => X.size - wr.iterPos w5.heap.size)
          case atStart => exact ⟨0, rfl, Nat.zero_le _, rfl⟩
          case round =>
            obtain ⟨pos, rfl, hpos, rfl⟩ := hrel
            have hv16 := val16 X pos hx16 HXD.out
            by_cases hlt : pos < X.size
            · have hd := dig_at X pos hlt HXD.out
              have hst := val_step X pos hlt
              have HST := hid' hst
              have hnx : ∀ ty, (Instr.next (.pointer (some ⟨w5.heap.size, 0, none⟩)) true ty).run Tryd.prog (w5.iter X pos) = _ := fun ty => run_next_ascii w5 X pos ty hlt (by omega)
              clear hst
              generalize valFrom 0 (X.data.toList.take pos) = v at *
              obtain ⟨d1, d2⟩ := hd
              go_wp2_with fail
              go_roundw
              case rel => exact ⟨pos + 1, rfl, by omega, by rw [HST.out]; go_num⟩
              case measure => simp; omega
            · obtain rfl : pos = X.size := by omega
              have hfull : X.data.toList.take X.size = X.data.toList := List.take_of_length_le (by rw [Array.length_toList]; exact Nat.le_refl _)
              rw [hfull] at hv16 ⊢
              have hnx : ∀ ty, (Instr.next (.pointer (some ⟨w5.heap.size, 0, none⟩)) true ty).run Tryd.prog (w5.iter X X.size) = _ := fun ty => run_next_end w5 X X.size ty (by omega)
              have b7 : Below w1.heap.size w1 (w5.iter X X.size) := b6.alloc b6.size _
              clear hfull hpos hlt HXD hx16 b6
              generalize valFrom 0 X.data.toList = v at *
              by_cases hbig : 1000000000000000 < v
              · have e1 : decide ((1000000000000000 : Int) < (v : Int)) = true := by simp; omega
                have hv := hid' (show pp = (0, false) by rw [HR.out, tell, if_pos (Or.inl hbig)])
                clear hbig hv16
                go_wp2_with fail
                go_ret2
                exact ⟨by rw [hv.out]; rfl, b7⟩
              · have e1 : decide ((1000000000000000 : Int) < (v : Int)) = false := by simp; omega
                cases below
                · have hv := hid' (show pp = ((v : Int), true) by rw [HR.out, tell, if_neg (by simp; omega)]; rfl)
                  clear hbig
                  go_wp2_with fail
                  go_ret2
                  exact ⟨by rw [hv.out]; rfl, b7⟩
                · by_cases h0 : v = 0
                  · have hv := hid' (show pp = (0, false) by rw [HR.out, tell, if_pos (Or.inr ⟨rfl, h0⟩)])
                    subst h0
                    clear hbig
                    go_wp2_with fail
                    go_ret2
                    exact ⟨by rw [hv.out]; rfl, b7⟩
                  · have hv := hid' (show pp = (-(v : Int), true) by rw [HR.out, tell, if_neg (by simp; omega)]; rfl)
                    have e2 : ((v : Int) == 0) = false := by rw [beq_eq_false_iff_ne]; omega
                    clear hbig h0
                    go_wp2_with fail
                    go_ret2
                    exact ⟨by rw [hv.out]; rfl, b7⟩
        · go_wp2_with fail
          refine (HI2.out _).mono ?_
          rintro e w4 ⟨rfl, b40⟩
          have b4 := b3.trans (b40.mono b3.size)
          clear b3 b40
          by_cases hp1 : isDigs P.data.toList = true
          · rw [hp1]
            by_cases hp2 : 6 < P.size
            · have hv := hid' (show pp = (0, false) by rw [HP.out, parts3, HBW.out, badPart, hp1, HDP.out, decide_eq_true hp2]; rfl)
              go_wp2_with fail
              go_ret2
              exact ⟨by rw [hv.out]; rfl, b4⟩
            · have hp6 : P.size ≤ 6 := by omega
              have HR := hid' (show pp = tell below (valFrom 0 (W.data.toList ++ P.data.toList ++ noughts (6 - P.size))) by rw [HP.out, parts3, HBW.out, badPart, hp1, HDP.out, decide_eq_false hp2]; rfl)
              have HAP := hid' (digs_all hp1)
              clear HBW hp1 hp2
              go_wp2_with fail
              have HAW := hid' (digs_all hb1)
              have hk6 : ∃ k : Nat, P.size + k = 6 := ⟨6 - P.size, by omega⟩
              obtain ⟨k, hk⟩ := hk6
              have Ek : (6 : Int) - (P.size : Int) = (k : Int) := by omega
              have hw10 : W.size ≤ 10 := by omega
              rw [Ek]
              have hHR := HR.out
              rw [show 6 - P.size = k by omega] at hHR
              have HR := hid' hHR
              clear hHR HP HN HDW HDP HI2 hb1
              refine (Tryd.strings_Repeat ⟨#[48]⟩ k _ (by omega) (by show 1 * k ≤ _; omega)).mono ?_
              rintro e w5 ⟨rfl, b5⟩
              have b6 := b4.trans (b5.mono b4.size)
              clear b4 b5 Ek
              obtain ⟨Z, hZ, hZl, hZs⟩ := zeros k
              rw [hZ]
              clear hZ
              have z1 : ¬ (9223372036854775807 < W.size + P.size) := by omega
              have z2 : (W ++ P).size = W.size + P.size := ByteArray.size_append
              have z3 : ¬ (9223372036854775807 < W.size + P.size + Z.size) := by omega
              have HX := hid' (app3 W P Z)
              have hXs : (W ++ P ++ Z).size = W.size + P.size + Z.size := by rw [ByteArray.size_append, ByteArray.size_append]
              have HXS := hid' hXs
              clear hXs
              go_wp2_with fail
              have hx16 : (W ++ P ++ Z).size ≤ 16 := by rw [HXS.out]; omega
              have hxl := HX.out
              rw [hZl] at hxl
              rw [← hxl] at HR
              have hxd : (W ++ P ++ Z).data.toList.all isDig = true := by rw [hxl, List.all_append, List.all_append, HAW.out, HAP.out, all_noughts]; rfl
              have HXD := hid' hxd
              clear HX HXS hxl hxd z1 z2 z3 hk hZl hZs HAW HAP hw10 hp6
              generalize W ++ P ++ Z = X at *
              go_loopw [9] (fun n wr => ∃ pos : Nat, wr = w5.iter X pos ∧ pos ≤ X.size ∧ n = .int .i64 ((valFrom 0 (X.data.toList.take pos) : Nat) : Int)) (fun _ wr => X.size - wr.iterPos w5.heap.size)
              case atStart => exact ⟨0, rfl, Nat.zero_le _, rfl⟩
              case round =>
                obtain ⟨pos, rfl, hpos, rfl⟩ := hrel
                have hv16 := val16 X pos hx16 HXD.out
                by_cases hlt : pos < X.size
                · have hd := dig_at X pos hlt HXD.out
                  have hst := val_step X pos hlt
                  have HST := hid' hst
                  have hnx : ∀ ty, (Instr.next (.pointer (some ⟨w5.heap.size, 0, none⟩)) true ty).run Tryd.prog (w5.iter X pos) = _ := fun ty => run_next_ascii w5 X pos ty hlt (by omega)
                  clear hst
                  generalize valFrom 0 (X.data.toList.take pos) = v at *
                  obtain ⟨d1, d2⟩ := hd
                  go_wp2_with fail
                  go_roundw
                  case rel => exact ⟨pos + 1, rfl, by omega, by rw [HST.out]; go_num⟩
                  case measure => simp; omega
                · obtain rfl : pos = X.size := by omega
                  have hfull : X.data.toList.take X.size = X.data.toList := List.take_of_length_le (by rw [Array.length_toList]; exact Nat.le_refl _)
                  rw [hfull] at hv16 ⊢
                  have hnx : ∀ ty, (Instr.next (.pointer (some ⟨w5.heap.size, 0, none⟩)) true ty).run Tryd.prog (w5.iter X X.size) = _ := fun ty => run_next_end w5 X X.size ty (by omega)
                  have b7 : Below w1.heap.size w1 (w5.iter X X.size) := b6.alloc b6.size _
                  clear hfull hpos hlt HXD hx16 b6
                  generalize valFrom 0 X.data.toList = v at *
                  by_cases hbig : 1000000000000000 < v
                  · have e1 : decide ((1000000000000000 : Int) < (v : Int)) = true := by simp; omega
                    have hv := hid' (show pp = (0, false) by rw [HR.out, tell, if_pos (Or.inl hbig)])
                    clear hbig hv16
                    go_wp2_with fail
                    go_ret2
                    exact ⟨by rw [hv.out]; rfl, b7⟩
                  · have e1 : decide ((1000000000000000 : Int) < (v : Int)) = false := by simp; omega
                    cases below
                    · have hv := hid' (show pp = ((v : Int), true) by rw [HR.out, tell, if_neg (by simp; omega)]; rfl)
                      clear hbig
                      go_wp2_with fail
                      go_ret2
                      exact ⟨by rw [hv.out]; rfl, b7⟩
                    · by_cases h0 : v = 0
                      · have hv := hid' (show pp = (0, false) by rw [HR.out, tell, if_pos (Or.inr ⟨rfl, h0⟩)])
                        subst h0
                        clear hbig
                        go_wp2_with fail
                        go_ret2
                        exact ⟨by rw [hv.out]; rfl, b7⟩
                      · have hv := hid' (show pp = (-(v : Int), true) by rw [HR.out, tell, if_neg (by simp; omega)]; rfl)
                        have e2 : ((v : Int) == 0) = false := by rw [beq_eq_false_iff_ne]; omega
                        clear hbig h0
                        go_wp2_with fail
                        go_ret2
                        exact ⟨by rw [hv.out]; rfl, b7⟩
          · have hp1' : isDigs P.data.toList = false := by simpa using hp1
            have hv := hid' (show pp = (0, false) by rw [HP.out, parts3, HBW.out, badPart, hp1']; rfl)
            rw [hp1']
            go_wp2_with fail
            go_ret2
            exact ⟨by rw [hv.out]; rfl, b4⟩
  · have hb1' : isDigs W.data.toList = false := by simpa using hb1
    have hv := hid' (show pp = (0, false) by rw [HP.out, parts3, badWhole, hb1']; rfl)
    rw [hb1']
    go_wp2_with fail
    go_ret2
    exact ⟨by rw [hv.out]; rfl, b3⟩
end Go.Proofs.YtljmokbdmfiajaaDoor
