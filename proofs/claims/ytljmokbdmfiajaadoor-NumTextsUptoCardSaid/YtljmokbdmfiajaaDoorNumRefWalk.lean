/- Proved: the reference's digit and Parse as contracts: Parse answers the same plain number. Condition: the text is shorter than 4 000 000 000 bytes. -/
import Derived.Test.YtljmokbdmfiajaaDoorNumRefParse
import Derived.WalkSpells
import Derived.Deep.DeepCutAuto
import Derived.Lib.IndexBytes
import Derived.Laws.DeepStrings4
namespace Go.Proofs.YtljmokbdmfiajaaDoor
open Go.RowKit
set_option linter.unusedVariables false
open Num

theorem isDig_iff (c : UInt8) : isDig c = true ↔ 48 ≤ c.toNat ∧ c.toNat ≤ 57 := by unfold isDig; simp
theorem digit_any (c : UInt8) (w : World) : Calls Tryd.prog 39 #[.int .u8 (c.toNat : Int)] w (Ret (.bool (isDig c)) w) := by
  have h1 : c.toNat < 256 := c.toNat_lt
  by_cases h : 48 ≤ (c.toNat : Int)
  · by_cases h' : (c.toNat : Int) ≤ 57
    · have e : isDig c = true := (isDig_iff c).2 ⟨by omega, by omega⟩
      rw [e]
      go_enter Tryd.func39, Tryd.ntmps39
      go_wp2_with fail
      go_ret
      exact ⟨rfl, rfl⟩
    · have e : isDig c = false := by
        refine Decidable.byContradiction fun hc => ?_
        have := (isDig_iff c).1 (by simpa using hc)
        omega
      rw [e]
      go_enter Tryd.func39, Tryd.ntmps39
      go_wp2_with fail
      go_ret
      exact ⟨rfl, rfl⟩
  · have e : isDig c = false := by
      refine Decidable.byContradiction fun hc => ?_
      have := (isDig_iff c).1 (by simpa using hc)
      omega
    rw [e]
    go_enter Tryd.func39, Tryd.ntmps39
    go_wp2_with fail
    go_ret
    exact ⟨rfl, rfl⟩

theorem parse_no (l : List UInt8) (h : Lib.hasPrefix l [45] = false) : parse l = refTail false l (lead l) := by
  unfold parse
  rw [Lib.trimPrefix, h]
  exact ref_tail false l
theorem parse_yes (l : List UInt8) (h : Lib.hasPrefix l [45] = true) : parse l = refTail true (l.drop 1) (lead (l.drop 1)) := by
  unfold parse
  rw [Lib.trimPrefix, h]
  exact ref_tail true (l.drop 1)
theorem pre45 (s : ByteArray) (h : 0 < s.size) : Lib.hasPrefix s.data.toList [45] = (s[0] == 45) := by
  have e := head_ba s h
  unfold Lib.hasPrefix
  cases hl : s.data.toList with
  | nil => rw [hl] at e; cases e
  | cons a t =>
    rw [hl] at e
    have ha : a = s[0] := Option.some.inj e
    rw [ha]
    show ((45 : UInt8) == s[0] && true) = _
    rw [Bool.and_true, Bool.beq_comm]
theorem tail_list (s : ByteArray) : (s.extract 1 s.size).data.toList = s.data.toList.drop 1 := Lib.extract_to_end s 1
namespace Num
/-- What the reference's Parse leans on, of a text and its leading digits. -/
structure Lead (T : ByteArray) (K : Nat) : Prop where
  le : K ≤ T.size
  dig : ∀ j (h : j < T.size), j < K → 48 ≤ T[j].toNat ∧ T[j].toNat ≤ 57
  isd : ∀ j (h : j < T.size), j < K → isDig T[j] = true
  nod : ∀ (h : K < T.size), isDig T[K] = false
  all : (T.data.toList.take K).all isDig = true
theorem list_at (T : ByteArray) (j : Nat) (h : j < T.size) : T.data.toList[j]? = some T[j] := by
  rw [Array.getElem?_toList]
  exact Array.getElem?_eq_getElem h
theorem lead_of (T : ByteArray) : Lead T (lead T.data.toList) := by
  have hl : T.data.toList.length = T.size := Array.length_toList
  refine ⟨by have := lead_le T.data.toList; omega, ?_, ?_, ?_, ?_⟩
  · intro j h hj
    exact (isDig_iff _).1 (lead_dig _ j hj _ (list_at T j h))
  · intro j h hj
    exact lead_dig _ j hj _ (list_at T j h)
  · intro h
    exact lead_not _ _ (list_at T _ h)
  · rw [(lead_split _).2.1]; exact List.all_takeWhile
theorem val_pre (T : ByteArray) (K j : Nat) (hj : j ≤ K) (h : (T.data.toList.take K).all isDig = true) (hK : K ≤ 10) : valFrom 0 (T.data.toList.take j) < 10000000000 := by
  have h0 : (T.data.toList.take j).all isDig = true := by
    rw [List.all_eq_true] at h ⊢
    intro x hx
    refine h x ?_
    have : T.data.toList.take j = (T.data.toList.take K).take j := by rw [List.take_take]; congr 1; omega
    rw [this] at hx
    exact List.mem_of_mem_take hx
  have h1 := valFrom_lt _ h0 0 0 (by omega)
  have h2 : (T.data.toList.take j).length ≤ 10 := by rw [List.length_take]; omega
  have h3 : 10 ^ (0 + (T.data.toList.take j).length) ≤ 10 ^ 10 := Nat.pow_le_pow_right (by omega) (by omega)
  omega
theorem drop_at (T : ByteArray) (K j : Nat) (h : K + 1 + j < T.size) : (T.data.toList.drop (K + 1))[j]? = some (T[K + 1 + j]'h) := by
  rw [List.getElem?_drop]
  exact list_at T _ h
/-- The places, filled up. -/
def padded (D : List UInt8) : List UInt8 := D ++ noughts (6 - D.length)
theorem padded_len (D : List UInt8) (h : D.length ≤ 6) : (padded D).length = 6 := by
  unfold padded noughts; rw [List.length_append, List.length_replicate]; omega
theorem pad_step (V : Nat) (D : List UInt8) (h : D.length ≤ 6) (j : Nat) (hj : j < 6) (c : UInt8) (hc : (padded D)[j]? = some c) :
    valFrom V ((padded D).take (j + 1)) = 10 * valFrom V ((padded D).take j) + (c.toNat - 48) := by
  have hl := padded_len D h
  have e : (padded D)[j]'(by omega) = c := by
    rw [List.getElem?_eq_getElem (by omega)] at hc
    exact Option.some.inj hc
  rw [List.take_succ_eq_append_getElem (by omega), valFrom_append, e]
  rfl
theorem pad_in (D : List UInt8) (j : Nat) (h : j < D.length) : (padded D)[j]? = D[j]? := by
  unfold padded; rw [List.getElem?_append_left h]
theorem pad_out (D : List UInt8) (j : Nat) (h : ¬ j < D.length) (hj : j < 6) : (padded D)[j]? = some 48 := by
  unfold padded noughts
  rw [List.getElem?_append_right (by omega), List.getElem?_replicate, if_pos (by omega)]
theorem pad_bound (V : Nat) (D : List UInt8) (hD : D.length ≤ 6) (j : Nat) (hj : j ≤ 6) (hV : V < 10000000000) (ha : (D.take j).all isDig = true) : valFrom V ((padded D).take j) < 10000000000000000 := by
  have h1 : ((padded D).take j).all isDig = true := by
    unfold padded
    rw [List.take_append, List.all_append, ha, Bool.true_and, List.all_eq_true]
    intro x hx
    have h2 := all_noughts (6 - D.length)
    rw [List.all_eq_true] at h2
    exact h2 x (List.mem_of_mem_take hx)
  have h2 := valFrom_lt _ h1 V 10 (by omega)
  have h3 : ((padded D).take j).length ≤ 6 := by rw [List.length_take]; omega
  have h4 : 10 ^ (10 + ((padded D).take j).length) ≤ 10 ^ 16 := Nat.pow_le_pow_right (by omega) (by omega)
  omega
theorem all_step (D : List UInt8) (j : Nat) (c : UInt8) (hc : D[j]? = some c) (h : (D.take j).all isDig = true) : (D.take (j + 1)).all isDig = isDig c := by
  obtain ⟨hl, he⟩ := List.getElem?_eq_some_iff.1 hc
  rw [List.take_succ_eq_append_getElem hl, List.all_append, h, he]
  simp
theorem all_more (D : List UInt8) (j : Nat) (hj : ¬ j < D.length) (h : (D.take j).all isDig = true) : (D.take (j + 1)).all isDig = true := by
  rw [List.take_of_length_le (by omega)] at h ⊢; exact h
theorem all_no (D : List UInt8) (j : Nat) (h : (D.take (j + 1)).all isDig = false) : D.all isDig = false := by
  rw [List.all_eq_false] at h ⊢
  obtain ⟨x, hx, hd⟩ := h
  exact ⟨x, List.mem_of_mem_take hx, hd⟩
end Num
def Pref (pp : Int × Bool) (w : World) (e : Ending) (w' : World) : Prop := e = .returned (.tuple #[.int .i64 pp.1, .bool pp.2]) ∧ w' = w

set_option maxRecDepth 100000 in
set_option maxHeartbeats 4000000 in
theorem refparse_any (s : ByteArray) (w : World) (hs : s.size ≤ 4000000000) :
    Calls Tryd.prog 27 #[.string s] w (Pref (parse s.data.toList) w) := by
  obtain ⟨pp, hpp⟩ : ∃ pp, Hid (pp = parse s.data.toList) := ⟨_, rfl⟩
  rw [← hpp.out]
  by_cases h0 : 0 < s.size
  · by_cases h1 : (s[0].toNat : Int) = 45
    · have HP := hid' (show pp = refTail true (s.extract 1 s.size).data.toList (lead (s.extract 1 s.size).data.toList) by
        rw [tail_list, hpp.out]
        refine parse_yes _ ?_
        rw [pre45 s h0, beq_iff_eq]
        exact UInt8.toNat_inj.1 (by rw [show UInt8.toNat 45 = 45 from rfl]; omega))
      have hT : (s.extract 1 s.size).size ≤ 4000000000 := by rw [ByteArray.size_extract]; omega
      go_enter Tryd.func27, Tryd.ntmps27
      go_upto_block 0 with (fail)
      generalize s.extract 1 s.size = T at *
      obtain ⟨K, HK⟩ : ∃ K, Hid (K = lead T.data.toList) := ⟨_, rfl⟩
      have HL := hid' (lead_of T)
      rw [← HK.out] at HP HL
      have hKs := HL.out.le
      clear HK
      go_cut [5] (fun v wx => v = .int .i64 (K : Int) ∧ wx = w)
      case first =>
        go_wp2_with fail
        go_loop [5] (fun v => ∃ j : Nat, v = .int .i64 (j : Int) ∧ j ≤ K) (fun v => K - (intOf v).toNat)
        case atStart => exact ⟨0, rfl, Nat.zero_le _⟩
        case round =>
          obtain ⟨j, rfl, hj⟩ := hrel
          by_cases hjK : j < K
          · have hjs : j < T.size := by omega
            have hd := hid' (HL.out.isd j hjs hjK)
            have hdig := hid' (digit_any T[j] w)
            rw [hd.out] at hdig
            clear hd
            go_wp2_with fail
            refine hdig.out.mono ?_
            rintro e w2 ⟨rfl, rfl⟩
            go_wp2_with fail
            go_round
            case rel => exact ⟨j + 1, by go_num, by omega⟩
            case measure => simp [intOf]; omega
          · obtain rfl : j = K := by omega
            by_cases hjs : j < T.size
            · have hd := hid' (HL.out.nod hjs)
              have hdig := hid' (digit_any T[j] w)
              rw [hd.out] at hdig
              clear hd
              go_wp2_with fail
              refine hdig.out.mono ?_
              rintro e w2 ⟨rfl, rfl⟩
              go_wp2_with fail
              go_meet
              exact ⟨rfl, rfl⟩
            · go_wp2_with fail
              go_meet
              exact ⟨rfl, rfl⟩
      case rest =>
        obtain ⟨rfl, rfl⟩ := hcut
        by_cases k1 : K < 1
        · have hv := hid' (show pp = (0, false) by rw [HP.out, refTail, if_pos (Or.inl k1)])
          go_wp2_with fail
          go_ret2
          exact ⟨by rw [hv.out]; rfl, rfl⟩
        · by_cases k2 : 10 < K
          · have hv := hid' (show pp = (0, false) by rw [HP.out, refTail, if_pos (Or.inr (Or.inl k2))])
            go_wp2_with fail
            go_ret2
            exact ⟨by rw [hv.out]; rfl, rfl⟩
          · have hT0 : 0 < T.size := by omega
            by_cases k3 : 1 < K ∧ (T[0].toNat : Int) = 48
            · obtain ⟨k3, k4⟩ := k3
              have hv := hid' (show pp = (0, false) by
                rw [HP.out, refTail, if_pos (Or.inr (Or.inr ⟨k3, by rw [head_ba T hT0]; congr 1; exact UInt8.toNat_inj.1 (by rw [show UInt8.toNat 48 = 48 from rfl]; omega)⟩))])
              go_wp2_with fail
              go_ret2
              exact ⟨by rw [hv.out]; rfl, rfl⟩
            · have HP2 := hid' (HP.out.trans (by
                unfold refTail
                rw [if_neg (by
                  rintro (h | h | ⟨h, h'⟩)
                  · exact k1 h
                  · exact k2 h
                  · refine k3 ⟨h, ?_⟩
                    rw [head_ba T hT0] at h'
                    rw [Option.some.inj h']; rfl)]))
              have k5 : ¬ 1 < K ∨ (1 < K ∧ ((T[0].toNat : Int) == 48) = false) := by
                by_cases h : 1 < K
                · exact Or.inr ⟨h, by rw [beq_eq_false_iff_ne]; exact fun h' => k3 ⟨h, h'⟩⟩
                · exact Or.inl h
              clear k3 HP
              have HLen := hid' (show T.data.toList.length = T.size from Array.length_toList)
              obtain ⟨D, hD⟩ : ∃ D, D = T.data.toList.drop (K + 1) := ⟨_, rfl⟩
              have HD := hid' hD
              have hDl : D.length = T.size - (K + 1) := by rw [hD, List.length_drop, HLen.out]
              rw [← hD] at HP2
              clear hD
              obtain ⟨P, hP⟩ : ∃ P : Nat, P = T.size - (K + 1) := ⟨_, rfl⟩
              have HPD := hid' (show D.length = P by omega)
              by_cases k6 : K < T.size
              · have hbyte := list_at T K k6
                have hPe : (T.size : Int) - (K : Int) - 1 = (P : Int) := by omega
                by_cases k7 : (T[K].toNat : Int) = 46
                · have k46 : T.data.toList[K]? = some 46 := by rw [hbyte]; congr 1; exact UInt8.toNat_inj.1 (by rw [show UInt8.toNat 46 = 46 from rfl]; omega)
                  by_cases k8 : 1 ≤ P ∧ P ≤ 6
                  · obtain ⟨k8, k9⟩ := k8
                    have HR0 := hid' (HP2.out.trans (if_neg (by rw [k46, HLen.out]; simp; omega)))
                    rw [HPD.out] at HR0
                    have hD6 : D.length ≤ 6 := by omega
                    have HPL := hid' (fun i (h : i < D.length) => (show K + 1 + i < T.size by omega))
                    have HR := hid' (HR0.out.trans (show _ = (if D.all isDig = false then (0, false) else tell true (valFrom (valFrom 0 (T.data.toList.take K)) (padded D))) by rw [padded, HPD.out, ← valFrom_append, List.append_assoc]))
                    clear hbyte k46 hDl hP HR0
                    rcases k5 with k5 | ⟨k5, k5'⟩
                    · have hV10 : valFrom 0 (T.data.toList.take K) < 10000000000 := by
                        have h1 := valFrom_lt _ HL.out.all 0 0 (by omega)
                        have h2 : (T.data.toList.take K).length ≤ 10 := by rw [List.length_take]; omega
                        have h3 : 10 ^ (0 + (T.data.toList.take K).length) ≤ 10 ^ 10 := Nat.pow_le_pow_right (by omega) (by omega)
                        omega
                      have HLd := hid' HL.out.dig
                      have HVS := hid' (fun j (h : j < T.size) => val_step T j h)
                      have HVB := hid' (fun j (hj : j ≤ K) => val_pre T K j hj HL.out.all (by omega))
                      have HDT := hid' (fun j (h : K + 1 + j < T.size) => drop_at T K j h)
                      clear HP2 HLen HL hT hs
                      generalize hV : valFrom 0 (T.data.toList.take K) = V at *
                      have HV := hid' hV
                      clear hV
                      go_wp2_with fail
                      go_loop [7, 8] (fun vn vi => ∃ j : Nat, vi = .int .i64 (j : Int) ∧ j ≤ K ∧ vn = .int .i64 ((valFrom 0 (T.data.toList.take j) : Nat) : Int)) (fun _ vi => K - (intOf vi).toNat)
                      case atStart => exact ⟨0, rfl, Nat.zero_le _, rfl⟩
                      case round =>
                        obtain ⟨j, rfl, hj, rfl⟩ := hrel
                        have hb := HVB.out j hj
                        by_cases hjK : j < K
                        · have hjs : j < T.size := by omega
                          obtain ⟨d1, d2⟩ := HLd.out j hjs hjK
                          have HST := hid' (HVS.out j hjs)
                          have e1 : IntKind.u8.wrap ((T[j].toNat : Int) - 48) = (T[j].toNat : Int) - 48 := by rw [IntKind.wrap_u8]; omega
                          generalize valFrom 0 (T.data.toList.take j) = v at *
                          go_wp2_with fail
                          go_round
                          case rel => exact ⟨j + 1, by go_num, by omega, by rw [HST.out]; go_num⟩
                          case measure => simp [intOf]; omega
                        · obtain rfl : j = K := by omega
                          rw [HV.out]
                          clear hb HLd HVS HVB HV
                          go_wp2_with fail
                          go_loop [7, 9] (fun vn vi => ∃ j : Nat, vi = .int .i64 (j : Int) ∧ j ≤ 6 ∧ vn = .int .i64 ((valFrom V ((padded D).take j) : Nat) : Int) ∧ Hid ((D.take j).all isDig = true)) (fun _ vi => 6 - (intOf vi).toNat)
                          case atStart => exact ⟨0, rfl, Nat.zero_le _, rfl, rfl⟩
                          case round =>
                            obtain ⟨i, rfl, hi, rfl, HA⟩ := hrel
                            have hb := pad_bound V D hD6 i hi hV10 HA.out
                            by_cases hi6 : i < 6
                            · by_cases hiP : i < D.length
                              · have hPs := HPL.out i hiP
                                have hx := HDT.out i hPs
                                rw [HD.out.symm] at hx
                                have HST := hid' (pad_step V D hD6 i hi6 _ ((pad_in D i hiP).trans hx))
                                have HAS := hid' (all_step D i _ hx HA.out)
                                have hdig := hid' (fun w => digit_any (T[j + 1 + i]'hPs) w)
                                clear hx
                                by_cases hdd : isDig (T[j + 1 + i]'hPs) = true
                                · obtain ⟨d1, d2⟩ := (isDig_iff _).1 hdd
                                  rw [hdd] at HAS hdig
                                  have e1 : IntKind.u8.wrap (((T[j + 1 + i]'hPs).toNat : Int) - 48) = ((T[j + 1 + i]'hPs).toNat : Int) - 48 := by rw [IntKind.wrap_u8]; omega
                                  clear hdd
                                  generalize valFrom V ((padded D).take i) = v at *
                                  go_wp2_with fail
                                  refine (hdig.out _).mono ?_
                                  rintro e w2 ⟨rfl, rfl⟩
                                  go_wp2_with fail
                                  go_round
                                  case rel => exact ⟨i + 1, by go_num, by omega, by rw [HST.out]; go_num, HAS⟩
                                  case measure => simp [intOf]; omega
                                · have hdf : isDig (T[j + 1 + i]'hPs) = false := by simpa using hdd
                                  rw [hdf] at HAS hdig
                                  have hv := hid' (show pp = (0, false) by rw [HR.out, if_pos (all_no D i HAS.out)])
                                  clear hdd hdf
                                  generalize valFrom V ((padded D).take i) = v at *
                                  go_wp2_with fail
                                  refine (hdig.out _).mono ?_
                                  rintro e w2 ⟨rfl, rfl⟩
                                  go_wp2_with fail
                                  go_ret2
                                  exact ⟨by rw [hv.out]; rfl, rfl⟩
                              · have HST := hid' (pad_step V D hD6 i hi6 _ (pad_out D i hiP hi6))
                                have HAS := hid' (all_more D i hiP HA.out)
                                rw [show UInt8.toNat 48 - 48 = 0 from rfl] at HST
                                have hiP2 : ¬ (i : Int) < (P : Int) := by have := HPD.out; omega
                                generalize valFrom V ((padded D).take i) = v at *
                                go_wp2_with fail
                                go_round
                                case rel => exact ⟨i + 1, by go_num, by omega, by rw [HST.out]; go_num, HAS⟩
                                case measure => simp [intOf]; omega
                            · obtain rfl : i = 6 := by omega
                              have hfull : D.take 6 = D := List.take_of_length_le hD6
                              rw [hfull] at HA
                              have hpf : (padded D).take 6 = padded D := List.take_of_length_le (by rw [padded_len D hD6]; exact Nat.le_refl _)
                              rw [hpf] at hb ⊢
                              have HR2 := hid' (show pp = tell true (valFrom V (padded D)) by rw [HR.out, HA.out, if_neg (by decide)])
                              clear hfull hpf HR
                              generalize valFrom V (padded D) = v at *
                              by_cases hbig : 1000000000000000 < v
                              · have e1 : decide ((1000000000000000 : Int) < (v : Int)) = true := by simp; omega
                                have hv := hid' (show pp = (0, false) by rw [HR2.out, tell, if_pos (Or.inl hbig)])
                                clear hbig hb
                                go_wp2_with fail
                                go_ret2
                                exact ⟨by rw [hv.out]; rfl, rfl⟩
                              · have e1 : decide ((1000000000000000 : Int) < (v : Int)) = false := by simp; omega
                                by_cases h0 : v = 0
                                · have hv := hid' (show pp = (0, false) by rw [HR2.out, tell, if_pos (Or.inr ⟨rfl, h0⟩)])
                                  subst h0
                                  clear hbig
                                  go_wp2_with fail
                                  go_ret2
                                  exact ⟨by rw [hv.out]; rfl, rfl⟩
                                · have hv := hid' (show pp = (-(v : Int), true) by rw [HR2.out, tell, if_neg (by simp; omega)]; rfl)
                                  have e2 : ((v : Int) == 0) = false := by rw [beq_eq_false_iff_ne]; omega
                                  clear hbig h0
                                  go_wp2_with fail
                                  go_ret2
                                  exact ⟨by rw [hv.out]; rfl, rfl⟩
                    · have hV10 : valFrom 0 (T.data.toList.take K) < 10000000000 := by
                        have h1 := valFrom_lt _ HL.out.all 0 0 (by omega)
                        have h2 : (T.data.toList.take K).length ≤ 10 := by rw [List.length_take]; omega
                        have h3 : 10 ^ (0 + (T.data.toList.take K).length) ≤ 10 ^ 10 := Nat.pow_le_pow_right (by omega) (by omega)
                        omega
                      have HLd := hid' HL.out.dig
                      have HVS := hid' (fun j (h : j < T.size) => val_step T j h)
                      have HVB := hid' (fun j (hj : j ≤ K) => val_pre T K j hj HL.out.all (by omega))
                      have HDT := hid' (fun j (h : K + 1 + j < T.size) => drop_at T K j h)
                      clear HP2 HLen HL hT hs
                      generalize hV : valFrom 0 (T.data.toList.take K) = V at *
                      have HV := hid' hV
                      clear hV
                      go_wp2_with fail
                      go_loop [7, 8] (fun vn vi => ∃ j : Nat, vi = .int .i64 (j : Int) ∧ j ≤ K ∧ vn = .int .i64 ((valFrom 0 (T.data.toList.take j) : Nat) : Int)) (fun _ vi => K - (intOf vi).toNat)
                      case atStart => exact ⟨0, rfl, Nat.zero_le _, rfl⟩
                      case round =>
                        obtain ⟨j, rfl, hj, rfl⟩ := hrel
                        have hb := HVB.out j hj
                        by_cases hjK : j < K
                        · have hjs : j < T.size := by omega
                          obtain ⟨d1, d2⟩ := HLd.out j hjs hjK
                          have HST := hid' (HVS.out j hjs)
                          have e1 : IntKind.u8.wrap ((T[j].toNat : Int) - 48) = (T[j].toNat : Int) - 48 := by rw [IntKind.wrap_u8]; omega
                          generalize valFrom 0 (T.data.toList.take j) = v at *
                          go_wp2_with fail
                          go_round
                          case rel => exact ⟨j + 1, by go_num, by omega, by rw [HST.out]; go_num⟩
                          case measure => simp [intOf]; omega
                        · obtain rfl : j = K := by omega
                          rw [HV.out]
                          clear hb HLd HVS HVB HV
                          go_wp2_with fail
                          go_loop [7, 9] (fun vn vi => ∃ j : Nat, vi = .int .i64 (j : Int) ∧ j ≤ 6 ∧ vn = .int .i64 ((valFrom V ((padded D).take j) : Nat) : Int) ∧ Hid ((D.take j).all isDig = true)) (fun _ vi => 6 - (intOf vi).toNat)
                          case atStart => exact ⟨0, rfl, Nat.zero_le _, rfl, rfl⟩
                          case round =>
                            obtain ⟨i, rfl, hi, rfl, HA⟩ := hrel
                            have hb := pad_bound V D hD6 i hi hV10 HA.out
                            by_cases hi6 : i < 6
                            · by_cases hiP : i < D.length
                              · have hPs := HPL.out i hiP
                                have hx := HDT.out i hPs
                                rw [HD.out.symm] at hx
                                have HST := hid' (pad_step V D hD6 i hi6 _ ((pad_in D i hiP).trans hx))
                                have HAS := hid' (all_step D i _ hx HA.out)
                                have hdig := hid' (fun w => digit_any (T[j + 1 + i]'hPs) w)
                                clear hx
                                by_cases hdd : isDig (T[j + 1 + i]'hPs) = true
                                · obtain ⟨d1, d2⟩ := (isDig_iff _).1 hdd
                                  rw [hdd] at HAS hdig
                                  have e1 : IntKind.u8.wrap (((T[j + 1 + i]'hPs).toNat : Int) - 48) = ((T[j + 1 + i]'hPs).toNat : Int) - 48 := by rw [IntKind.wrap_u8]; omega
                                  clear hdd
                                  generalize valFrom V ((padded D).take i) = v at *
                                  go_wp2_with fail
                                  refine (hdig.out _).mono ?_
                                  rintro e w2 ⟨rfl, rfl⟩
                                  go_wp2_with fail
                                  go_round
                                  case rel => exact ⟨i + 1, by go_num, by omega, by rw [HST.out]; go_num, HAS⟩
                                  case measure => simp [intOf]; omega
                                · have hdf : isDig (T[j + 1 + i]'hPs) = false := by simpa using hdd
                                  rw [hdf] at HAS hdig
                                  have hv := hid' (show pp = (0, false) by rw [HR.out, if_pos (all_no D i HAS.out)])
                                  clear hdd hdf
                                  generalize valFrom V ((padded D).take i) = v at *
                                  go_wp2_with fail
                                  refine (hdig.out _).mono ?_
                                  rintro e w2 ⟨rfl, rfl⟩
                                  go_wp2_with fail
                                  go_ret2
                                  exact ⟨by rw [hv.out]; rfl, rfl⟩
                              · have HST := hid' (pad_step V D hD6 i hi6 _ (pad_out D i hiP hi6))
                                have HAS := hid' (all_more D i hiP HA.out)
                                rw [show UInt8.toNat 48 - 48 = 0 from rfl] at HST
                                have hiP2 : ¬ (i : Int) < (P : Int) := by have := HPD.out; omega
                                generalize valFrom V ((padded D).take i) = v at *
                                go_wp2_with fail
                                go_round
                                case rel => exact ⟨i + 1, by go_num, by omega, by rw [HST.out]; go_num, HAS⟩
                                case measure => simp [intOf]; omega
                            · obtain rfl : i = 6 := by omega
                              have hfull : D.take 6 = D := List.take_of_length_le hD6
                              rw [hfull] at HA
                              have hpf : (padded D).take 6 = padded D := List.take_of_length_le (by rw [padded_len D hD6]; exact Nat.le_refl _)
                              rw [hpf] at hb ⊢
                              have HR2 := hid' (show pp = tell true (valFrom V (padded D)) by rw [HR.out, HA.out, if_neg (by decide)])
                              clear hfull hpf HR
                              generalize valFrom V (padded D) = v at *
                              by_cases hbig : 1000000000000000 < v
                              · have e1 : decide ((1000000000000000 : Int) < (v : Int)) = true := by simp; omega
                                have hv := hid' (show pp = (0, false) by rw [HR2.out, tell, if_pos (Or.inl hbig)])
                                clear hbig hb
                                go_wp2_with fail
                                go_ret2
                                exact ⟨by rw [hv.out]; rfl, rfl⟩
                              · have e1 : decide ((1000000000000000 : Int) < (v : Int)) = false := by simp; omega
                                by_cases h0 : v = 0
                                · have hv := hid' (show pp = (0, false) by rw [HR2.out, tell, if_pos (Or.inr ⟨rfl, h0⟩)])
                                  subst h0
                                  clear hbig
                                  go_wp2_with fail
                                  go_ret2
                                  exact ⟨by rw [hv.out]; rfl, rfl⟩
                                · have hv := hid' (show pp = (-(v : Int), true) by rw [HR2.out, tell, if_neg (by simp; omega)]; rfl)
                                  have e2 : ((v : Int) == 0) = false := by rw [beq_eq_false_iff_ne]; omega
                                  clear hbig h0
                                  go_wp2_with fail
                                  go_ret2
                                  exact ⟨by rw [hv.out]; rfl, rfl⟩
                  · have hv := hid' (show pp = (0, false) by rw [HP2.out, if_pos ⟨by rw [HLen.out]; exact k6, by rw [HLen.out]; omega⟩])
                    have k10 : P < 1 ∨ (¬ P < 1 ∧ 6 < P) := by omega
                    clear k46 hbyte hDl hP k8
                    rcases k10 with k10 | ⟨k10, k11⟩
                    all_goals go_wp2_with fail
                    all_goals go_ret2
                    all_goals exact ⟨by rw [hv.out]; rfl, rfl⟩
                · have k7' : ((T[K].toNat : Int) == 46) = false := by rw [beq_eq_false_iff_ne]; exact k7
                  have k7'' : ((T[K].toNat : Int) != 46) = true := by rw [bne_iff_ne]; exact k7
                  have hv := hid' (show pp = (0, false) by
                    rw [HP2.out, if_pos ⟨by rw [HLen.out]; exact k6, Or.inl (by rw [hbyte]; intro e; apply k7; rw [Option.some.inj e]; rfl)⟩])
                  clear hbyte hDl hP k7
                  go_wp2_with fail
                  all_goals go_ret2
                  all_goals exact ⟨by rw [hv.out]; rfl, rfl⟩
              · have HR0 := hid' (HP2.out.trans (if_neg (by rw [HLen.out]; omega)))
                rw [HPD.out] at HR0
                have hD6 : D.length ≤ 6 := by omega
                have HPL := hid' (fun i (h : i < D.length) => (show K + 1 + i < T.size by omega))
                have HR := hid' (HR0.out.trans (show _ = (if D.all isDig = false then (0, false) else tell true (valFrom (valFrom 0 (T.data.toList.take K)) (padded D))) by rw [padded, HPD.out, ← valFrom_append, List.append_assoc]))
                clear HR0
                obtain rfl : P = 0 := by omega
                clear hDl hP
                rcases k5 with k5 | ⟨k5, k5'⟩
                · have hV10 : valFrom 0 (T.data.toList.take K) < 10000000000 := by
                    have h1 := valFrom_lt _ HL.out.all 0 0 (by omega)
                    have h2 : (T.data.toList.take K).length ≤ 10 := by rw [List.length_take]; omega
                    have h3 : 10 ^ (0 + (T.data.toList.take K).length) ≤ 10 ^ 10 := Nat.pow_le_pow_right (by omega) (by omega)
                    omega
                  have HLd := hid' HL.out.dig
                  have HVS := hid' (fun j (h : j < T.size) => val_step T j h)
                  have HVB := hid' (fun j (hj : j ≤ K) => val_pre T K j hj HL.out.all (by omega))
                  have HDT := hid' (fun j (h : K + 1 + j < T.size) => drop_at T K j h)
                  clear HP2 HLen HL hT hs
                  generalize hV : valFrom 0 (T.data.toList.take K) = V at *
                  have HV := hid' hV
                  clear hV
                  go_wp2_with fail
                  go_loop [7, 8] (fun vn vi => ∃ j : Nat, vi = .int .i64 (j : Int) ∧ j ≤ K ∧ vn = .int .i64 ((valFrom 0 (T.data.toList.take j) : Nat) : Int)) (fun _ vi => K - (intOf vi).toNat)
                  case atStart => exact ⟨0, rfl, Nat.zero_le _, rfl⟩
                  case round =>
                    obtain ⟨j, rfl, hj, rfl⟩ := hrel
                    have hb := HVB.out j hj
                    by_cases hjK : j < K
                    · have hjs : j < T.size := by omega
                      obtain ⟨d1, d2⟩ := HLd.out j hjs hjK
                      have HST := hid' (HVS.out j hjs)
                      have e1 : IntKind.u8.wrap ((T[j].toNat : Int) - 48) = (T[j].toNat : Int) - 48 := by rw [IntKind.wrap_u8]; omega
                      generalize valFrom 0 (T.data.toList.take j) = v at *
                      go_wp2_with fail
                      go_round
                      case rel => exact ⟨j + 1, by go_num, by omega, by rw [HST.out]; go_num⟩
                      case measure => simp [intOf]; omega
                    · obtain rfl : j = K := by omega
                      rw [HV.out]
                      clear hb HLd HVS HVB HV
                      go_wp2_with fail
                      go_loop [7, 9] (fun vn vi => ∃ j : Nat, vi = .int .i64 (j : Int) ∧ j ≤ 6 ∧ vn = .int .i64 ((valFrom V ((padded D).take j) : Nat) : Int) ∧ Hid ((D.take j).all isDig = true)) (fun _ vi => 6 - (intOf vi).toNat)
                      case atStart => exact ⟨0, rfl, Nat.zero_le _, rfl, rfl⟩
                      case round =>
                        obtain ⟨i, rfl, hi, rfl, HA⟩ := hrel
                        have hb := pad_bound V D hD6 i hi hV10 HA.out
                        by_cases hi6 : i < 6
                        · by_cases hiP : i < D.length
                          · exact absurd hiP (by rw [HPD.out]; omega)
                          · have HST := hid' (pad_step V D hD6 i hi6 _ (pad_out D i hiP hi6))
                            have HAS := hid' (all_more D i hiP HA.out)
                            rw [show UInt8.toNat 48 - 48 = 0 from rfl] at HST
                            have hiP2 : ¬ (i : Int) < 0 := by omega
                            generalize valFrom V ((padded D).take i) = v at *
                            go_wp2_with fail
                            go_round
                            case rel => exact ⟨i + 1, by go_num, by omega, by rw [HST.out]; go_num, HAS⟩
                            case measure => simp [intOf]; omega
                        · obtain rfl : i = 6 := by omega
                          have hfull : D.take 6 = D := List.take_of_length_le hD6
                          rw [hfull] at HA
                          have hpf : (padded D).take 6 = padded D := List.take_of_length_le (by rw [padded_len D hD6]; exact Nat.le_refl _)
                          rw [hpf] at hb ⊢
                          have HR2 := hid' (show pp = tell true (valFrom V (padded D)) by rw [HR.out, HA.out, if_neg (by decide)])
                          clear hfull hpf HR
                          generalize valFrom V (padded D) = v at *
                          by_cases hbig : 1000000000000000 < v
                          · have e1 : decide ((1000000000000000 : Int) < (v : Int)) = true := by simp; omega
                            have hv := hid' (show pp = (0, false) by rw [HR2.out, tell, if_pos (Or.inl hbig)])
                            clear hbig hb
                            go_wp2_with fail
                            go_ret2
                            exact ⟨by rw [hv.out]; rfl, rfl⟩
                          · have e1 : decide ((1000000000000000 : Int) < (v : Int)) = false := by simp; omega
                            by_cases h0 : v = 0
                            · have hv := hid' (show pp = (0, false) by rw [HR2.out, tell, if_pos (Or.inr ⟨rfl, h0⟩)])
                              subst h0
                              clear hbig
                              go_wp2_with fail
                              go_ret2
                              exact ⟨by rw [hv.out]; rfl, rfl⟩
                            · have hv := hid' (show pp = (-(v : Int), true) by rw [HR2.out, tell, if_neg (by simp; omega)]; rfl)
                              have e2 : ((v : Int) == 0) = false := by rw [beq_eq_false_iff_ne]; omega
                              clear hbig h0
                              go_wp2_with fail
                              go_ret2
                              exact ⟨by rw [hv.out]; rfl, rfl⟩
                · have hV10 : valFrom 0 (T.data.toList.take K) < 10000000000 := by
                    have h1 := valFrom_lt _ HL.out.all 0 0 (by omega)
                    have h2 : (T.data.toList.take K).length ≤ 10 := by rw [List.length_take]; omega
                    have h3 : 10 ^ (0 + (T.data.toList.take K).length) ≤ 10 ^ 10 := Nat.pow_le_pow_right (by omega) (by omega)
                    omega
                  have HLd := hid' HL.out.dig
                  have HVS := hid' (fun j (h : j < T.size) => val_step T j h)
                  have HVB := hid' (fun j (hj : j ≤ K) => val_pre T K j hj HL.out.all (by omega))
                  have HDT := hid' (fun j (h : K + 1 + j < T.size) => drop_at T K j h)
                  clear HP2 HLen HL hT hs
                  generalize hV : valFrom 0 (T.data.toList.take K) = V at *
                  have HV := hid' hV
                  clear hV
                  go_wp2_with fail
                  go_loop [7, 8] (fun vn vi => ∃ j : Nat, vi = .int .i64 (j : Int) ∧ j ≤ K ∧ vn = .int .i64 ((valFrom 0 (T.data.toList.take j) : Nat) : Int)) (fun _ vi => K - (intOf vi).toNat)
                  case atStart => exact ⟨0, rfl, Nat.zero_le _, rfl⟩
                  case round =>
                    obtain ⟨j, rfl, hj, rfl⟩ := hrel
                    have hb := HVB.out j hj
                    by_cases hjK : j < K
                    · have hjs : j < T.size := by omega
                      obtain ⟨d1, d2⟩ := HLd.out j hjs hjK
                      have HST := hid' (HVS.out j hjs)
                      have e1 : IntKind.u8.wrap ((T[j].toNat : Int) - 48) = (T[j].toNat : Int) - 48 := by rw [IntKind.wrap_u8]; omega
                      generalize valFrom 0 (T.data.toList.take j) = v at *
                      go_wp2_with fail
                      go_round
                      case rel => exact ⟨j + 1, by go_num, by omega, by rw [HST.out]; go_num⟩
                      case measure => simp [intOf]; omega
                    · obtain rfl : j = K := by omega
                      rw [HV.out]
                      clear hb HLd HVS HVB HV
                      go_wp2_with fail
                      go_loop [7, 9] (fun vn vi => ∃ j : Nat, vi = .int .i64 (j : Int) ∧ j ≤ 6 ∧ vn = .int .i64 ((valFrom V ((padded D).take j) : Nat) : Int) ∧ Hid ((D.take j).all isDig = true)) (fun _ vi => 6 - (intOf vi).toNat)
                      case atStart => exact ⟨0, rfl, Nat.zero_le _, rfl, rfl⟩
                      case round =>
                        obtain ⟨i, rfl, hi, rfl, HA⟩ := hrel
                        have hb := pad_bound V D hD6 i hi hV10 HA.out
                        by_cases hi6 : i < 6
                        · by_cases hiP : i < D.length
                          · exact absurd hiP (by rw [HPD.out]; omega)
                          · have HST := hid' (pad_step V D hD6 i hi6 _ (pad_out D i hiP hi6))
                            have HAS := hid' (all_more D i hiP HA.out)
                            rw [show UInt8.toNat 48 - 48 = 0 from rfl] at HST
                            have hiP2 : ¬ (i : Int) < 0 := by omega
                            generalize valFrom V ((padded D).take i) = v at *
                            go_wp2_with fail
                            go_round
                            case rel => exact ⟨i + 1, by go_num, by omega, by rw [HST.out]; go_num, HAS⟩
                            case measure => simp [intOf]; omega
                        · obtain rfl : i = 6 := by omega
                          have hfull : D.take 6 = D := List.take_of_length_le hD6
                          rw [hfull] at HA
                          have hpf : (padded D).take 6 = padded D := List.take_of_length_le (by rw [padded_len D hD6]; exact Nat.le_refl _)
                          rw [hpf] at hb ⊢
                          have HR2 := hid' (show pp = tell true (valFrom V (padded D)) by rw [HR.out, HA.out, if_neg (by decide)])
                          clear hfull hpf HR
                          generalize valFrom V (padded D) = v at *
                          by_cases hbig : 1000000000000000 < v
                          · have e1 : decide ((1000000000000000 : Int) < (v : Int)) = true := by simp; omega
                            have hv := hid' (show pp = (0, false) by rw [HR2.out, tell, if_pos (Or.inl hbig)])
                            clear hbig hb
                            go_wp2_with fail
                            go_ret2
                            exact ⟨by rw [hv.out]; rfl, rfl⟩
                          · have e1 : decide ((1000000000000000 : Int) < (v : Int)) = false := by simp; omega
                            by_cases h0 : v = 0
                            · have hv := hid' (show pp = (0, false) by rw [HR2.out, tell, if_pos (Or.inr ⟨rfl, h0⟩)])
                              subst h0
                              clear hbig
                              go_wp2_with fail
                              go_ret2
                              exact ⟨by rw [hv.out]; rfl, rfl⟩
                            · have hv := hid' (show pp = (-(v : Int), true) by rw [HR2.out, tell, if_neg (by simp; omega)]; rfl)
                              have e2 : ((v : Int) == 0) = false := by rw [beq_eq_false_iff_ne]; omega
                              clear hbig h0
                              go_wp2_with fail
                              go_ret2
                              exact ⟨by rw [hv.out]; rfl, rfl⟩
    · have h1' : ((s[0].toNat : Int) == 45) = false := by rw [beq_eq_false_iff_ne]; exact h1
      have HP := hid' (show pp = refTail false s.data.toList (lead s.data.toList) by
        rw [hpp.out]
        refine parse_no _ ?_
        rw [pre45 s h0, beq_eq_false_iff_ne]
        intro e
        rw [e] at h1
        exact h1 rfl)
      go_enter Tryd.func27, Tryd.ntmps27
      go_upto_block 0 with (fail)
      have hT := hs
      rename ByteArray => T
      obtain ⟨K, HK⟩ : ∃ K, Hid (K = lead T.data.toList) := ⟨_, rfl⟩
      have HL := hid' (lead_of T)
      rw [← HK.out] at HP HL
      have hKs := HL.out.le
      clear HK
      go_cut [5] (fun v wx => v = .int .i64 (K : Int) ∧ wx = w)
      case first =>
        go_wp2_with fail
        go_loop [5] (fun v => ∃ j : Nat, v = .int .i64 (j : Int) ∧ j ≤ K) (fun v => K - (intOf v).toNat)
        case atStart => exact ⟨0, rfl, Nat.zero_le _⟩
        case round =>
          obtain ⟨j, rfl, hj⟩ := hrel
          by_cases hjK : j < K
          · have hjs : j < T.size := by omega
            have hd := hid' (HL.out.isd j hjs hjK)
            have hdig := hid' (digit_any T[j] w)
            rw [hd.out] at hdig
            clear hd
            go_wp2_with fail
            refine hdig.out.mono ?_
            rintro e w2 ⟨rfl, rfl⟩
            go_wp2_with fail
            go_round
            case rel => exact ⟨j + 1, by go_num, by omega⟩
            case measure => simp [intOf]; omega
          · obtain rfl : j = K := by omega
            by_cases hjs : j < T.size
            · have hd := hid' (HL.out.nod hjs)
              have hdig := hid' (digit_any T[j] w)
              rw [hd.out] at hdig
              clear hd
              go_wp2_with fail
              refine hdig.out.mono ?_
              rintro e w2 ⟨rfl, rfl⟩
              go_wp2_with fail
              go_meet
              exact ⟨rfl, rfl⟩
            · go_wp2_with fail
              go_meet
              exact ⟨rfl, rfl⟩
      case rest =>
        obtain ⟨rfl, rfl⟩ := hcut
        by_cases k1 : K < 1
        · have hv := hid' (show pp = (0, false) by rw [HP.out, refTail, if_pos (Or.inl k1)])
          go_wp2_with fail
          go_ret2
          exact ⟨by rw [hv.out]; rfl, rfl⟩
        · by_cases k2 : 10 < K
          · have hv := hid' (show pp = (0, false) by rw [HP.out, refTail, if_pos (Or.inr (Or.inl k2))])
            go_wp2_with fail
            go_ret2
            exact ⟨by rw [hv.out]; rfl, rfl⟩
          · have hT0 : 0 < T.size := by omega
            by_cases k3 : 1 < K ∧ (T[0].toNat : Int) = 48
            · obtain ⟨k3, k4⟩ := k3
              have hv := hid' (show pp = (0, false) by
                rw [HP.out, refTail, if_pos (Or.inr (Or.inr ⟨k3, by rw [head_ba T hT0]; congr 1; exact UInt8.toNat_inj.1 (by rw [show UInt8.toNat 48 = 48 from rfl]; omega)⟩))])
              go_wp2_with fail
              go_ret2
              exact ⟨by rw [hv.out]; rfl, rfl⟩
            · have HP2 := hid' (HP.out.trans (by
                unfold refTail
                rw [if_neg (by
                  rintro (h | h | ⟨h, h'⟩)
                  · exact k1 h
                  · exact k2 h
                  · refine k3 ⟨h, ?_⟩
                    rw [head_ba T hT0] at h'
                    rw [Option.some.inj h']; rfl)]))
              have k5 : ¬ 1 < K ∨ (1 < K ∧ ((T[0].toNat : Int) == 48) = false) := by
                by_cases h : 1 < K
                · exact Or.inr ⟨h, by rw [beq_eq_false_iff_ne]; exact fun h' => k3 ⟨h, h'⟩⟩
                · exact Or.inl h
              clear k3 HP
              have HLen := hid' (show T.data.toList.length = T.size from Array.length_toList)
              obtain ⟨D, hD⟩ : ∃ D, D = T.data.toList.drop (K + 1) := ⟨_, rfl⟩
              have HD := hid' hD
              have hDl : D.length = T.size - (K + 1) := by rw [hD, List.length_drop, HLen.out]
              rw [← hD] at HP2
              clear hD
              obtain ⟨P, hP⟩ : ∃ P : Nat, P = T.size - (K + 1) := ⟨_, rfl⟩
              have HPD := hid' (show D.length = P by omega)
              by_cases k6 : K < T.size
              · have hbyte := list_at T K k6
                have hPe : (T.size : Int) - (K : Int) - 1 = (P : Int) := by omega
                by_cases k7 : (T[K].toNat : Int) = 46
                · have k46 : T.data.toList[K]? = some 46 := by rw [hbyte]; congr 1; exact UInt8.toNat_inj.1 (by rw [show UInt8.toNat 46 = 46 from rfl]; omega)
                  by_cases k8 : 1 ≤ P ∧ P ≤ 6
                  · obtain ⟨k8, k9⟩ := k8
                    have HR0 := hid' (HP2.out.trans (if_neg (by rw [k46, HLen.out]; simp; omega)))
                    rw [HPD.out] at HR0
                    have hD6 : D.length ≤ 6 := by omega
                    have HPL := hid' (fun i (h : i < D.length) => (show K + 1 + i < T.size by omega))
                    have HR := hid' (HR0.out.trans (show _ = (if D.all isDig = false then (0, false) else tell false (valFrom (valFrom 0 (T.data.toList.take K)) (padded D))) by rw [padded, HPD.out, ← valFrom_append, List.append_assoc]))
                    clear hbyte k46 hDl hP HR0
                    rcases k5 with k5 | ⟨k5, k5'⟩
                    · have hV10 : valFrom 0 (T.data.toList.take K) < 10000000000 := by
                        have h1 := valFrom_lt _ HL.out.all 0 0 (by omega)
                        have h2 : (T.data.toList.take K).length ≤ 10 := by rw [List.length_take]; omega
                        have h3 : 10 ^ (0 + (T.data.toList.take K).length) ≤ 10 ^ 10 := Nat.pow_le_pow_right (by omega) (by omega)
                        omega
                      have HLd := hid' HL.out.dig
                      have HVS := hid' (fun j (h : j < T.size) => val_step T j h)
                      have HVB := hid' (fun j (hj : j ≤ K) => val_pre T K j hj HL.out.all (by omega))
                      have HDT := hid' (fun j (h : K + 1 + j < T.size) => drop_at T K j h)
                      clear HP2 HLen HL hT hs
                      generalize hV : valFrom 0 (T.data.toList.take K) = V at *
                      have HV := hid' hV
                      clear hV
                      go_wp2_with fail
                      go_loop [7, 8] (fun vn vi => ∃ j : Nat, vi = .int .i64 (j : Int) ∧ j ≤ K ∧ vn = .int .i64 ((valFrom 0 (T.data.toList.take j) : Nat) : Int)) (fun _ vi => K - (intOf vi).toNat)
                      case atStart => exact ⟨0, rfl, Nat.zero_le _, rfl⟩
                      case round =>
                        obtain ⟨j, rfl, hj, rfl⟩ := hrel
                        have hb := HVB.out j hj
                        by_cases hjK : j < K
                        · have hjs : j < T.size := by omega
                          obtain ⟨d1, d2⟩ := HLd.out j hjs hjK
                          have HST := hid' (HVS.out j hjs)
                          have e1 : IntKind.u8.wrap ((T[j].toNat : Int) - 48) = (T[j].toNat : Int) - 48 := by rw [IntKind.wrap_u8]; omega
                          generalize valFrom 0 (T.data.toList.take j) = v at *
                          go_wp2_with fail
                          go_round
                          case rel => exact ⟨j + 1, by go_num, by omega, by rw [HST.out]; go_num⟩
                          case measure => simp [intOf]; omega
                        · obtain rfl : j = K := by omega
                          rw [HV.out]
                          clear hb HLd HVS HVB HV
                          go_wp2_with fail
                          go_loop [7, 9] (fun vn vi => ∃ j : Nat, vi = .int .i64 (j : Int) ∧ j ≤ 6 ∧ vn = .int .i64 ((valFrom V ((padded D).take j) : Nat) : Int) ∧ Hid ((D.take j).all isDig = true)) (fun _ vi => 6 - (intOf vi).toNat)
                          case atStart => exact ⟨0, rfl, Nat.zero_le _, rfl, rfl⟩
                          case round =>
                            obtain ⟨i, rfl, hi, rfl, HA⟩ := hrel
                            have hb := pad_bound V D hD6 i hi hV10 HA.out
                            by_cases hi6 : i < 6
                            · by_cases hiP : i < D.length
                              · have hPs := HPL.out i hiP
                                have hx := HDT.out i hPs
                                rw [HD.out.symm] at hx
                                have HST := hid' (pad_step V D hD6 i hi6 _ ((pad_in D i hiP).trans hx))
                                have HAS := hid' (all_step D i _ hx HA.out)
                                have hdig := hid' (fun w => digit_any (T[j + 1 + i]'hPs) w)
                                clear hx
                                by_cases hdd : isDig (T[j + 1 + i]'hPs) = true
                                · obtain ⟨d1, d2⟩ := (isDig_iff _).1 hdd
                                  rw [hdd] at HAS hdig
                                  have e1 : IntKind.u8.wrap (((T[j + 1 + i]'hPs).toNat : Int) - 48) = ((T[j + 1 + i]'hPs).toNat : Int) - 48 := by rw [IntKind.wrap_u8]; omega
                                  clear hdd
                                  generalize valFrom V ((padded D).take i) = v at *
                                  go_wp2_with fail
                                  refine (hdig.out _).mono ?_
                                  rintro e w2 ⟨rfl, rfl⟩
                                  go_wp2_with fail
                                  go_round
                                  case rel => exact ⟨i + 1, by go_num, by omega, by rw [HST.out]; go_num, HAS⟩
                                  case measure => simp [intOf]; omega
                                · have hdf : isDig (T[j + 1 + i]'hPs) = false := by simpa using hdd
                                  rw [hdf] at HAS hdig
                                  have hv := hid' (show pp = (0, false) by rw [HR.out, if_pos (all_no D i HAS.out)])
                                  clear hdd hdf
                                  generalize valFrom V ((padded D).take i) = v at *
                                  go_wp2_with fail
                                  refine (hdig.out _).mono ?_
                                  rintro e w2 ⟨rfl, rfl⟩
                                  go_wp2_with fail
                                  go_ret2
                                  exact ⟨by rw [hv.out]; rfl, rfl⟩
                              · have HST := hid' (pad_step V D hD6 i hi6 _ (pad_out D i hiP hi6))
                                have HAS := hid' (all_more D i hiP HA.out)
                                rw [show UInt8.toNat 48 - 48 = 0 from rfl] at HST
                                have hiP2 : ¬ (i : Int) < (P : Int) := by have := HPD.out; omega
                                generalize valFrom V ((padded D).take i) = v at *
                                go_wp2_with fail
                                go_round
                                case rel => exact ⟨i + 1, by go_num, by omega, by rw [HST.out]; go_num, HAS⟩
                                case measure => simp [intOf]; omega
                            · obtain rfl : i = 6 := by omega
                              have hfull : D.take 6 = D := List.take_of_length_le hD6
                              rw [hfull] at HA
                              have hpf : (padded D).take 6 = padded D := List.take_of_length_le (by rw [padded_len D hD6]; exact Nat.le_refl _)
                              rw [hpf] at hb ⊢
                              have HR2 := hid' (show pp = tell false (valFrom V (padded D)) by rw [HR.out, HA.out, if_neg (by decide)])
                              clear hfull hpf HR
                              generalize valFrom V (padded D) = v at *
                              by_cases hbig : 1000000000000000 < v
                              · have e1 : decide ((1000000000000000 : Int) < (v : Int)) = true := by simp; omega
                                have hv := hid' (show pp = (0, false) by rw [HR2.out, tell, if_pos (Or.inl hbig)])
                                clear hbig hb
                                go_wp2_with fail
                                go_ret2
                                exact ⟨by rw [hv.out]; rfl, rfl⟩
                              · have e1 : decide ((1000000000000000 : Int) < (v : Int)) = false := by simp; omega
                                have hv := hid' (show pp = ((v : Int), true) by rw [HR2.out, tell, if_neg (by simp; omega)]; rfl)
                                clear hbig
                                go_wp2_with fail
                                go_ret2
                                exact ⟨by rw [hv.out]; rfl, rfl⟩
                    · have hV10 : valFrom 0 (T.data.toList.take K) < 10000000000 := by
                        have h1 := valFrom_lt _ HL.out.all 0 0 (by omega)
                        have h2 : (T.data.toList.take K).length ≤ 10 := by rw [List.length_take]; omega
                        have h3 : 10 ^ (0 + (T.data.toList.take K).length) ≤ 10 ^ 10 := Nat.pow_le_pow_right (by omega) (by omega)
                        omega
                      have HLd := hid' HL.out.dig
                      have HVS := hid' (fun j (h : j < T.size) => val_step T j h)
                      have HVB := hid' (fun j (hj : j ≤ K) => val_pre T K j hj HL.out.all (by omega))
                      have HDT := hid' (fun j (h : K + 1 + j < T.size) => drop_at T K j h)
                      clear HP2 HLen HL hT hs
                      generalize hV : valFrom 0 (T.data.toList.take K) = V at *
                      have HV := hid' hV
                      clear hV
                      go_wp2_with fail
                      go_loop [7, 8] (fun vn vi => ∃ j : Nat, vi = .int .i64 (j : Int) ∧ j ≤ K ∧ vn = .int .i64 ((valFrom 0 (T.data.toList.take j) : Nat) : Int)) (fun _ vi => K - (intOf vi).toNat)
                      case atStart => exact ⟨0, rfl, Nat.zero_le _, rfl⟩
                      case round =>
                        obtain ⟨j, rfl, hj, rfl⟩ := hrel
                        have hb := HVB.out j hj
                        by_cases hjK : j < K
                        · have hjs : j < T.size := by omega
                          obtain ⟨d1, d2⟩ := HLd.out j hjs hjK
                          have HST := hid' (HVS.out j hjs)
                          have e1 : IntKind.u8.wrap ((T[j].toNat : Int) - 48) = (T[j].toNat : Int) - 48 := by rw [IntKind.wrap_u8]; omega
                          generalize valFrom 0 (T.data.toList.take j) = v at *
                          go_wp2_with fail
                          go_round
                          case rel => exact ⟨j + 1, by go_num, by omega, by rw [HST.out]; go_num⟩
                          case measure => simp [intOf]; omega
                        · obtain rfl : j = K := by omega
                          rw [HV.out]
                          clear hb HLd HVS HVB HV
                          go_wp2_with fail
                          go_loop [7, 9] (fun vn vi => ∃ j : Nat, vi = .int .i64 (j : Int) ∧ j ≤ 6 ∧ vn = .int .i64 ((valFrom V ((padded D).take j) : Nat) : Int) ∧ Hid ((D.take j).all isDig = true)) (fun _ vi => 6 - (intOf vi).toNat)
                          case atStart => exact ⟨0, rfl, Nat.zero_le _, rfl, rfl⟩
                          case round =>
                            obtain ⟨i, rfl, hi, rfl, HA⟩ := hrel
                            have hb := pad_bound V D hD6 i hi hV10 HA.out
                            by_cases hi6 : i < 6
                            · by_cases hiP : i < D.length
                              · have hPs := HPL.out i hiP
                                have hx := HDT.out i hPs
                                rw [HD.out.symm] at hx
                                have HST := hid' (pad_step V D hD6 i hi6 _ ((pad_in D i hiP).trans hx))
                                have HAS := hid' (all_step D i _ hx HA.out)
                                have hdig := hid' (fun w => digit_any (T[j + 1 + i]'hPs) w)
                                clear hx
                                by_cases hdd : isDig (T[j + 1 + i]'hPs) = true
                                · obtain ⟨d1, d2⟩ := (isDig_iff _).1 hdd
                                  rw [hdd] at HAS hdig
                                  have e1 : IntKind.u8.wrap (((T[j + 1 + i]'hPs).toNat : Int) - 48) = ((T[j + 1 + i]'hPs).toNat : Int) - 48 := by rw [IntKind.wrap_u8]; omega
                                  clear hdd
                                  generalize valFrom V ((padded D).take i) = v at *
                                  go_wp2_with fail
                                  refine (hdig.out _).mono ?_
                                  rintro e w2 ⟨rfl, rfl⟩
                                  go_wp2_with fail
                                  go_round
                                  case rel => exact ⟨i + 1, by go_num, by omega, by rw [HST.out]; go_num, HAS⟩
                                  case measure => simp [intOf]; omega
                                · have hdf : isDig (T[j + 1 + i]'hPs) = false := by simpa using hdd
                                  rw [hdf] at HAS hdig
                                  have hv := hid' (show pp = (0, false) by rw [HR.out, if_pos (all_no D i HAS.out)])
                                  clear hdd hdf
                                  generalize valFrom V ((padded D).take i) = v at *
                                  go_wp2_with fail
                                  refine (hdig.out _).mono ?_
                                  rintro e w2 ⟨rfl, rfl⟩
                                  go_wp2_with fail
                                  go_ret2
                                  exact ⟨by rw [hv.out]; rfl, rfl⟩
                              · have HST := hid' (pad_step V D hD6 i hi6 _ (pad_out D i hiP hi6))
                                have HAS := hid' (all_more D i hiP HA.out)
                                rw [show UInt8.toNat 48 - 48 = 0 from rfl] at HST
                                have hiP2 : ¬ (i : Int) < (P : Int) := by have := HPD.out; omega
                                generalize valFrom V ((padded D).take i) = v at *
                                go_wp2_with fail
                                go_round
                                case rel => exact ⟨i + 1, by go_num, by omega, by rw [HST.out]; go_num, HAS⟩
                                case measure => simp [intOf]; omega
                            · obtain rfl : i = 6 := by omega
                              have hfull : D.take 6 = D := List.take_of_length_le hD6
                              rw [hfull] at HA
                              have hpf : (padded D).take 6 = padded D := List.take_of_length_le (by rw [padded_len D hD6]; exact Nat.le_refl _)
                              rw [hpf] at hb ⊢
                              have HR2 := hid' (show pp = tell false (valFrom V (padded D)) by rw [HR.out, HA.out, if_neg (by decide)])
                              clear hfull hpf HR
                              generalize valFrom V (padded D) = v at *
                              by_cases hbig : 1000000000000000 < v
                              · have e1 : decide ((1000000000000000 : Int) < (v : Int)) = true := by simp; omega
                                have hv := hid' (show pp = (0, false) by rw [HR2.out, tell, if_pos (Or.inl hbig)])
                                clear hbig hb
                                go_wp2_with fail
                                go_ret2
                                exact ⟨by rw [hv.out]; rfl, rfl⟩
                              · have e1 : decide ((1000000000000000 : Int) < (v : Int)) = false := by simp; omega
                                have hv := hid' (show pp = ((v : Int), true) by rw [HR2.out, tell, if_neg (by simp; omega)]; rfl)
                                clear hbig
                                go_wp2_with fail
                                go_ret2
                                exact ⟨by rw [hv.out]; rfl, rfl⟩
                  · have hv := hid' (show pp = (0, false) by rw [HP2.out, if_pos ⟨by rw [HLen.out]; exact k6, by rw [HLen.out]; omega⟩])
                    have k10 : P < 1 ∨ (¬ P < 1 ∧ 6 < P) := by omega
                    clear k46 hbyte hDl hP k8
                    rcases k10 with k10 | ⟨k10, k11⟩
                    all_goals go_wp2_with fail
                    all_goals go_ret2
                    all_goals exact ⟨by rw [hv.out]; rfl, rfl⟩
                · have k7' : ((T[K].toNat : Int) == 46) = false := by rw [beq_eq_false_iff_ne]; exact k7
                  have k7'' : ((T[K].toNat : Int) != 46) = true := by rw [bne_iff_ne]; exact k7
                  have hv := hid' (show pp = (0, false) by
                    rw [HP2.out, if_pos ⟨by rw [HLen.out]; exact k6, Or.inl (by rw [hbyte]; intro e; apply k7; rw [Option.some.inj e]; rfl)⟩])
                  clear hbyte hDl hP k7
                  go_wp2_with fail
                  all_goals go_ret2
                  all_goals exact ⟨by rw [hv.out]; rfl, rfl⟩
              · have HR0 := hid' (HP2.out.trans (if_neg (by rw [HLen.out]; omega)))
                rw [HPD.out] at HR0
                have hD6 : D.length ≤ 6 := by omega
                have HPL := hid' (fun i (h : i < D.length) => (show K + 1 + i < T.size by omega))
                have HR := hid' (HR0.out.trans (show _ = (if D.all isDig = false then (0, false) else tell false (valFrom (valFrom 0 (T.data.toList.take K)) (padded D))) by rw [padded, HPD.out, ← valFrom_append, List.append_assoc]))
                clear HR0
                obtain rfl : P = 0 := by omega
                clear hDl hP
                rcases k5 with k5 | ⟨k5, k5'⟩
                · have hV10 : valFrom 0 (T.data.toList.take K) < 10000000000 := by
                    have h1 := valFrom_lt _ HL.out.all 0 0 (by omega)
                    have h2 : (T.data.toList.take K).length ≤ 10 := by rw [List.length_take]; omega
                    have h3 : 10 ^ (0 + (T.data.toList.take K).length) ≤ 10 ^ 10 := Nat.pow_le_pow_right (by omega) (by omega)
                    omega
                  have HLd := hid' HL.out.dig
                  have HVS := hid' (fun j (h : j < T.size) => val_step T j h)
                  have HVB := hid' (fun j (hj : j ≤ K) => val_pre T K j hj HL.out.all (by omega))
                  have HDT := hid' (fun j (h : K + 1 + j < T.size) => drop_at T K j h)
                  clear HP2 HLen HL hT hs
                  generalize hV : valFrom 0 (T.data.toList.take K) = V at *
                  have HV := hid' hV
                  clear hV
                  go_wp2_with fail
                  go_loop [7, 8] (fun vn vi => ∃ j : Nat, vi = .int .i64 (j : Int) ∧ j ≤ K ∧ vn = .int .i64 ((valFrom 0 (T.data.toList.take j) : Nat) : Int)) (fun _ vi => K - (intOf vi).toNat)
                  case atStart => exact ⟨0, rfl, Nat.zero_le _, rfl⟩
                  case round =>
                    obtain ⟨j, rfl, hj, rfl⟩ := hrel
                    have hb := HVB.out j hj
                    by_cases hjK : j < K
                    · have hjs : j < T.size := by omega
                      obtain ⟨d1, d2⟩ := HLd.out j hjs hjK
                      have HST := hid' (HVS.out j hjs)
                      have e1 : IntKind.u8.wrap ((T[j].toNat : Int) - 48) = (T[j].toNat : Int) - 48 := by rw [IntKind.wrap_u8]; omega
                      generalize valFrom 0 (T.data.toList.take j) = v at *
                      go_wp2_with fail
                      go_round
                      case rel => exact ⟨j + 1, by go_num, by omega, by rw [HST.out]; go_num⟩
                      case measure => simp [intOf]; omega
                    · obtain rfl : j = K := by omega
                      rw [HV.out]
                      clear hb HLd HVS HVB HV
                      go_wp2_with fail
                      go_loop [7, 9] (fun vn vi => ∃ j : Nat, vi = .int .i64 (j : Int) ∧ j ≤ 6 ∧ vn = .int .i64 ((valFrom V ((padded D).take j) : Nat) : Int) ∧ Hid ((D.take j).all isDig = true)) (fun _ vi => 6 - (intOf vi).toNat)
                      case atStart => exact ⟨0, rfl, Nat.zero_le _, rfl, rfl⟩
                      case round =>
                        obtain ⟨i, rfl, hi, rfl, HA⟩ := hrel
                        have hb := pad_bound V D hD6 i hi hV10 HA.out
                        by_cases hi6 : i < 6
                        · by_cases hiP : i < D.length
                          · exact absurd hiP (by rw [HPD.out]; omega)
                          · have HST := hid' (pad_step V D hD6 i hi6 _ (pad_out D i hiP hi6))
                            have HAS := hid' (all_more D i hiP HA.out)
                            rw [show UInt8.toNat 48 - 48 = 0 from rfl] at HST
                            have hiP2 : ¬ (i : Int) < 0 := by omega
                            generalize valFrom V ((padded D).take i) = v at *
                            go_wp2_with fail
                            go_round
                            case rel => exact ⟨i + 1, by go_num, by omega, by rw [HST.out]; go_num, HAS⟩
                            case measure => simp [intOf]; omega
                        · obtain rfl : i = 6 := by omega
                          have hfull : D.take 6 = D := List.take_of_length_le hD6
                          rw [hfull] at HA
                          have hpf : (padded D).take 6 = padded D := List.take_of_length_le (by rw [padded_len D hD6]; exact Nat.le_refl _)
                          rw [hpf] at hb ⊢
                          have HR2 := hid' (show pp = tell false (valFrom V (padded D)) by rw [HR.out, HA.out, if_neg (by decide)])
                          clear hfull hpf HR
                          generalize valFrom V (padded D) = v at *
                          by_cases hbig : 1000000000000000 < v
                          · have e1 : decide ((1000000000000000 : Int) < (v : Int)) = true := by simp; omega
                            have hv := hid' (show pp = (0, false) by rw [HR2.out, tell, if_pos (Or.inl hbig)])
                            clear hbig hb
                            go_wp2_with fail
                            go_ret2
                            exact ⟨by rw [hv.out]; rfl, rfl⟩
                          · have e1 : decide ((1000000000000000 : Int) < (v : Int)) = false := by simp; omega
                            have hv := hid' (show pp = ((v : Int), true) by rw [HR2.out, tell, if_neg (by simp; omega)]; rfl)
                            clear hbig
                            go_wp2_with fail
                            go_ret2
                            exact ⟨by rw [hv.out]; rfl, rfl⟩
                · have hV10 : valFrom 0 (T.data.toList.take K) < 10000000000 := by
                    have h1 := valFrom_lt _ HL.out.all 0 0 (by omega)
                    have h2 : (T.data.toList.take K).length ≤ 10 := by rw [List.length_take]; omega
                    have h3 : 10 ^ (0 + (T.data.toList.take K).length) ≤ 10 ^ 10 := Nat.pow_le_pow_right (by omega) (by omega)
                    omega
                  have HLd := hid' HL.out.dig
                  have HVS := hid' (fun j (h : j < T.size) => val_step T j h)
                  have HVB := hid' (fun j (hj : j ≤ K) => val_pre T K j hj HL.out.all (by omega))
                  have HDT := hid' (fun j (h : K + 1 + j < T.size) => drop_at T K j h)
                  clear HP2 HLen HL hT hs
                  generalize hV : valFrom 0 (T.data.toList.take K) = V at *
                  have HV := hid' hV
                  clear hV
                  go_wp2_with fail
                  go_loop [7, 8] (fun vn vi => ∃ j : Nat, vi = .int .i64 (j : Int) ∧ j ≤ K ∧ vn = .int .i64 ((valFrom 0 (T.data.toList.take j) : Nat) : Int)) (fun _ vi => K - (intOf vi).toNat)
                  case atStart => exact ⟨0, rfl, Nat.zero_le _, rfl⟩
                  case round =>
                    obtain ⟨j, rfl, hj, rfl⟩ := hrel
                    have hb := HVB.out j hj
                    by_cases hjK : j < K
                    · have hjs : j < T.size := by omega
                      obtain ⟨d1, d2⟩ := HLd.out j hjs hjK
                      have HST := hid' (HVS.out j hjs)
                      have e1 : IntKind.u8.wrap ((T[j].toNat : Int) - 48) = (T[j].toNat : Int) - 48 := by rw [IntKind.wrap_u8]; omega
                      generalize valFrom 0 (T.data.toList.take j) = v at *
                      go_wp2_with fail
                      go_round
                      case rel => exact ⟨j + 1, by go_num, by omega, by rw [HST.out]; go_num⟩
                      case measure => simp [intOf]; omega
                    · obtain rfl : j = K := by omega
                      rw [HV.out]
                      clear hb HLd HVS HVB HV
                      go_wp2_with fail
                      go_loop [7, 9] (fun vn vi => ∃ j : Nat, vi = .int .i64 (j : Int) ∧ j ≤ 6 ∧ vn = .int .i64 ((valFrom V ((padded D).take j) : Nat) : Int) ∧ Hid ((D.take j).all isDig = true)) (fun _ vi => 6 - (intOf vi).toNat)
                      case atStart => exact ⟨0, rfl, Nat.zero_le _, rfl, rfl⟩
                      case round =>
                        obtain ⟨i, rfl, hi, rfl, HA⟩ := hrel
                        have hb := pad_bound V D hD6 i hi hV10 HA.out
                        by_cases hi6 : i < 6
                        · by_cases hiP : i < D.length
                          · exact absurd hiP (by rw [HPD.out]; omega)
                          · have HST := hid' (pad_step V D hD6 i hi6 _ (pad_out D i hiP hi6))
                            have HAS := hid' (all_more D i hiP HA.out)
                            rw [show UInt8.toNat 48 - 48 = 0 from rfl] at HST
                            have hiP2 : ¬ (i : Int) < 0 := by omega
                            generalize valFrom V ((padded D).take i) = v at *
                            go_wp2_with fail
                            go_round
                            case rel => exact ⟨i + 1, by go_num, by omega, by rw [HST.out]; go_num, HAS⟩
                            case measure => simp [intOf]; omega
                        · obtain rfl : i = 6 := by omega
                          have hfull : D.take 6 = D := List.take_of_length_le hD6
                          rw [hfull] at HA
                          have hpf : (padded D).take 6 = padded D := List.take_of_length_le (by rw [padded_len D hD6]; exact Nat.le_refl _)
                          rw [hpf] at hb ⊢
                          have HR2 := hid' (show pp = tell false (valFrom V (padded D)) by rw [HR.out, HA.out, if_neg (by decide)])
                          clear hfull hpf HR
                          generalize valFrom V (padded D) = v at *
                          by_cases hbig : 1000000000000000 < v
                          · have e1 : decide ((1000000000000000 : Int) < (v : Int)) = true := by simp; omega
                            have hv := hid' (show pp = (0, false) by rw [HR2.out, tell, if_pos (Or.inl hbig)])
                            clear hbig hb
                            go_wp2_with fail
                            go_ret2
                            exact ⟨by rw [hv.out]; rfl, rfl⟩
                          · have e1 : decide ((1000000000000000 : Int) < (v : Int)) = false := by simp; omega
                            have hv := hid' (show pp = ((v : Int), true) by rw [HR2.out, tell, if_neg (by simp; omega)]; rfl)
                            clear hbig
                            go_wp2_with fail
                            go_ret2
                            exact ⟨by rw [hv.out]; rfl, rfl⟩
  · obtain rfl : s = ⟨#[]⟩ := by
      cases s with
      | mk a => congr 1; exact Array.eq_empty_of_size_eq_zero (by show a.size = 0; have : ¬ 0 < a.size := h0; omega)
    have HP := hid' (show pp = refTail false (⟨#[]⟩ : ByteArray).data.toList (lead (⟨#[]⟩ : ByteArray).data.toList) by
        rw [hpp.out]
        exact parse_no _ rfl)
    go_enter Tryd.func27, Tryd.ntmps27
    have hv := hid' (HP.out.trans (show _ = (0, false) from rfl))
    go_wp2_with fail
    go_loop [5] (fun v => v = .int .i64 0) (fun _ => 0)
    case atStart => rfl
    case round =>
      obtain rfl := hrel
      go_wp2_with fail
      go_ret2
      exact ⟨by rw [hv.out]; rfl, rfl⟩
end Go.Proofs.YtljmokbdmfiajaaDoor
