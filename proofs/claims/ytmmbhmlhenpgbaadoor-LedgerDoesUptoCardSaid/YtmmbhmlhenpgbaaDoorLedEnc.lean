/- Proved: ledger's Encode as a contract: a posting's bytes where it is right. -/
import Derived.Test.YtmmbhmlhenpgbaaDoorLedRight
import Derived.Test.YtmmbhmlhenpgbaaDoorWireWalk
namespace Go.Proofs.YtmmbhmlhenpgbaaDoor
open Go.RowKit
open Led
set_option linter.unusedVariables false
set_option linter.unusedSimpArgs false
set_option maxRecDepth 100000
namespace Led
/-- What Encode answers: the bytes, the number of the error. -/
def encOf (p : Post) : List UInt8 × Int := if right p = true then (enc p, 0) else ([], 200)
theorem encOf_yes {p : Post} (h : right p = true) : encOf p = (enc p, 0) := if_pos h
theorem encOf_no {p : Post} (h : right p = false) : encOf p = ([], 200) := if_neg (by rw [h]; simp)
def hv (p : Post) : Nat → Int
  | 0 => p.day
  | 1 => p.id
  | _ => p.legs.length
def hb (p : Post) : Nat → List UInt8
  | 0 => []
  | i + 1 => hb p i ++ Wire.putInt (hv p i)
theorem enc_is (p : Post) : enc p = hb p 3 ++ encLegs p.legs := by
  unfold enc
  simp [hb, hv]
theorem encLegs_append (l m : List Leg) : encLegs (l ++ m) = encLegs l ++ encLegs m := by
  induction l with
  | nil => rfl
  | cons x t ih => rw [List.cons_append, encLegs, encLegs, ih, List.append_assoc]
theorem encLegs_step (l : List Leg) (k : Nat) (x : Leg) (h : l[k]? = some x) : encLegs (l.take (k + 1)) = encLegs (l.take k) ++ encLeg x := by
  rw [take_snoc l k x h, encLegs_append]
  simp [encLegs]
theorem putInt_len (n : Int) (h : -9223372036854775808 ≤ n) (h' : n ≤ 9223372036854775807) : (Wire.putInt n).length ≤ 10 :=
  Wire.vbytes_len 9 _ (Nat.lt_of_lt_of_le (Wire.zig_lt n h h') (Wire.pow_10 10 (by omega)))
theorem encLeg_len {x : Leg} (h : Fits x) : (encLeg x).length ≤ 78 := by
  unfold encLeg Wire.putText
  have h1 : x.party.data.toList.length ≤ 24 := by rw [Array.length_toList]; exact h.party
  have h2 : x.cur.data.toList.length ≤ 24 := by rw [Array.length_toList]; exact h.cur
  have h3 := putInt_len x.party.data.toList.length (by omega) (by omega)
  have h4 := putInt_len x.cur.data.toList.length (by omega) (by omega)
  have h5 := putInt_len x.amount h.lo h.hi
  simp only [List.length_append]
  omega
theorem encLegs_len (l : List Leg) (h : ∀ x ∈ l, Fits x) : (encLegs l).length ≤ 78 * l.length := by
  induction l with
  | nil => simp [encLegs]
  | cons x t ih =>
    have h1 := encLeg_len (h x (by simp))
    have h2 := ih fun y hy => h y (by simp [hy])
    rw [encLegs, List.length_append, List.length_cons]
    omega
theorem hv_in (p : Post) (i : Nat) (hd : -9223372036854775808 ≤ p.day ∧ p.day ≤ 9223372036854775807) (hi : -9223372036854775808 ≤ p.id ∧ p.id ≤ 9223372036854775807) (hn : p.legs.length ≤ 64) : -9223372036854775808 ≤ hv p i ∧ hv p i ≤ 9223372036854775807 := by
  match i with
  | 0 => exact hd
  | 1 => exact hi
  | _ + 2 => exact ⟨by show -9223372036854775808 ≤ (p.legs.length : Int); omega, by show (p.legs.length : Int) ≤ 9223372036854775807; omega⟩
theorem hb_len (p : Post) (i : Nat) (hd : -9223372036854775808 ≤ p.day ∧ p.day ≤ 9223372036854775807) (hi : -9223372036854775808 ≤ p.id ∧ p.id ≤ 9223372036854775807) (hn : p.legs.length ≤ 64) (h3 : i ≤ 3) : (hb p i).length ≤ 30 := by
  have : (hb p i).length ≤ 10 * i := by
    induction i with
    | zero => simp [hb]
    | succ i ih =>
      have h1 := ih (by omega)
      have h2 := hv_in p i hd hi hn
      have := putInt_len (hv p i) h2.1 h2.2
      rw [hb, List.length_append]; omega
  omega
end Led
theorem putInt_nums (l : List UInt8) (n : Int) : nums l ++ nums (Wire.vbytes (Wire.zig n)) = nums (l ++ Wire.putInt n) := by
  unfold nums Wire.putInt; rw [List.map_append]
theorem putText_nums (l : List UInt8) (s : ByteArray) : nums l ++ (nums (Wire.vbytes (Wire.zig (s.size : Int))) ++ nums s.data.toList) = nums (l ++ Wire.putText s.data.toList) := by
  unfold nums Wire.putText Wire.putInt; rw [List.map_append, List.map_append, len_ba]
def EncPost (p : Post) (w : World) (e : Ending) (w' : World) : Prop := ∃ v, e = .returned (.tuple #[v, .int .i64 (encOf p).2]) ∧ Owns w.heap.size w' v (nums (encOf p).1) ∧ Below w.heap.size w w'
theorem Owns.nilNums (base : Nat) (w : World) : Owns base w (.slice none 0 0) (nums []) := Owns.nil base w
/-- A slice of bytes of the call's own, with what it holds so far. -/
structure Held (w : World) (l : List UInt8) (v : Value) (wr : World) : Prop where
  own : Owns w.heap.size wr v (nums l)
  bel : Below w.heap.size w wr
theorem Held.put {w wr w' : World} {l : List UInt8} {v : Value} {n : Int} {e : Ending} (A : Held w l v wr) (h : Fresh wr (nums l ++ nums (Wire.vbytes (Wire.zig n))) e w') : ∃ v', e = .returned v' ∧ Held w (l ++ Wire.putInt n) v' w' ∧ Below wr.heap.size wr w' := by
  obtain ⟨v', he, ho, hb⟩ := h
  rw [putInt_nums] at ho
  exact ⟨v', he, ⟨ho.mono A.bel.size, Below.more A.bel hb⟩, hb⟩
theorem Held.text {w wr w' : World} {l : List UInt8} {v : Value} {s : ByteArray} {e : Ending} (A : Held w l v wr) (h : Fresh wr (nums l ++ (nums (Wire.vbytes (Wire.zig (s.size : Int))) ++ nums s.data.toList)) e w') : ∃ v', e = .returned v' ∧ Held w (l ++ Wire.putText s.data.toList) v' w' ∧ Below wr.heap.size wr w' := by
  obtain ⟨v', he, ho, hb⟩ := h
  rw [putText_nums] at ho
  exact ⟨v', he, ⟨ho.mono A.bel.size, Below.more A.bel hb⟩, hb⟩
theorem Held.legs0 {w wr : World} {p : Post} {v : Value} (h : Held w (hb p 3) v wr) : Held w (hb p 3 ++ encLegs (p.legs.take 0)) v wr := by
  rw [List.take_zero]; unfold encLegs; rw [List.append_nil]; exact h
theorem Held.below {w wr w' : World} {l : List UInt8} {v : Value} (h : Held w l v wr) (B : Below wr.heap.size wr w') : Held w l v w' := ⟨h.own.below B, Below.more h.bel B⟩
theorem Held.leg {w wr : World} {h : List UInt8} {l : List Leg} {i : Nat} {x : Leg} {v : Value} (A : Held w (h ++ encLegs (l.take i) ++ Wire.putText x.party.data.toList ++ Wire.putText x.cur.data.toList ++ Wire.putInt x.amount) v wr) (hs : encLegs (l.take (i + 1)) = encLegs (l.take i) ++ encLeg x) : Held w (h ++ encLegs (l.take (i + 1))) v wr := by
  rw [hs, encLeg]
  simp only [List.append_assoc] at *
  exact A
theorem txt_len (s : ByteArray) (h : s.size ≤ 24) : (Wire.putText s.data.toList).length ≤ 34 := by
  have h1 : s.data.toList.length ≤ 24 := by rw [Array.length_toList]; exact h
  have := putInt_len s.data.toList.length (by omega) (by omega)
  unfold Wire.putText
  rw [List.length_append]; omega
set_option maxHeartbeats 2000000 in
theorem encode_any (p : Post) (lv : Value) (w : World) (hl : LegsAt w lv p.legs) (hd : -9223372036854775808 ≤ p.day ∧ p.day ≤ 9223372036854775807) (hi' : -9223372036854775808 ≤ p.id ∧ p.id ≤ 9223372036854775807) :
    Calls Tryd.prog 11 #[.agg #[.int .i64 p.day, .int .i64 p.id, lv]] w (EncPost p w) := by
  have HRT := hid' (fun w' (hb : Below w.heap.size w w') => right_any p lv w' (hl.below hb) hd hi')
  cases hr : right p with
  | false =>
    have HE := hid' (encOf_no hr)
    rw [hr] at HRT
    clear hr
    go_enter Tryd.func11, Tryd.ntmps11
    go_wp2_with fail
    refine (HRT.out _ ((Below.refl _ _).alloc (Nat.le_refl _) _)).mono ?_
    rintro e w1 ⟨rfl, b1⟩
    go_wp2_with fail
    go_ret2
    exact ⟨.slice none 0 0, by rw [HE.out]; rfl, by rw [HE.out]; exact Owns.nil _ _, Below.more ((Below.refl _ _).alloc (Nat.le_refl _) _) b1⟩
  | true =>
    have HE := hid' (encOf_yes hr)
    have HP := hid' (right_parts hr)
    have HH := hid' (head_parts HP.out.1)
    have HF := hid' (show ∀ x ∈ p.legs, Fits x from fun x hx => legOk_fits (List.all_eq_true.1 HP.out.2.1 x hx))
    have n1 : p.legs.length ≤ 64 := HH.out.2.2.2.2.2
    rw [hr] at HRT
    rcases hl with ⟨⟨p0, rfl⟩, h1⟩ | ⟨b, off, cap, rfl, h1, h2, h3, h4⟩
    · obtain ⟨_, _, _, _, n1, _⟩ := HH.out
      rw [h1] at n1; simp at n1
    · clear hr
      have HC := hid' h4
      clear h4
      have HM := hid' h2
      clear h2
      go_enter Tryd.func11, Tryd.ntmps11
      go_wp2_with fail
      refine (HRT.out _ ((Below.refl _ _).alloc (Nat.le_refl _) _)).mono ?_
      rintro e w1 ⟨rfl, b1⟩
      have b2 := Below.more ((Below.refl _ w).alloc (Nat.le_refl _) _) b1
      have k1 := keep_all b1 _ _ (new_cell (W := w) (t := 24) (xs := #[.int .i64 p.day, .int .i64 p.id, .slice (some ⟨b, off, none⟩) p.legs.length cap]) (b := w.heap.size) (o := 0) rfl rfl)
      have k2 := keep_all b1 _ _ (new_cell (W := w) (t := 24) (xs := #[.int .i64 p.day, .int .i64 p.id, .slice (some ⟨b, off, none⟩) p.legs.length cap]) (b := w.heap.size) (o := 1) rfl rfl)
      have k3 := keep_all b1 _ _ (new_cell (W := w) (t := 24) (xs := #[.int .i64 p.day, .int .i64 p.id, .slice (some ⟨b, off, none⟩) p.legs.length cap]) (b := w.heap.size) (o := 2) rfl rfl)
      have HB2 := hid' b2
      clear b1 b2
      go_wp2_with fail
      have HV0 : ∀ i, i < 3 → (w1.alloc (.cells #[.int .i64 p.day, .int .i64 p.id, .int .i64 (p.legs.length : Int)] 3)).cell? ⟨w1.heap.size, i, none⟩ = some (.int .i64 (hv p i)) := by
        intro i hi
        rcases (by omega : i = 0 ∨ i = 1 ∨ i = 2) with rfl | rfl | rfl <;> exact new_cell rfl rfl
      have hbW : Below w1.heap.size w1 (w1.alloc (.cells #[.int .i64 p.day, .int .i64 p.id, .int .i64 (p.legs.length : Int)] 3)) := (Below.refl _ _).alloc (Nat.le_refl _) _
      have hgW : w1.heap.size < (w1.alloc (.cells #[.int .i64 p.day, .int .i64 p.id, .int .i64 (p.legs.length : Int)] 3)).heap.size := by simp
      have HV := hid' HV0
      have HBW := hid' (Below.more HB2.out hbW)
      have HG := hid' hgW
      have HK3 := hid' (And.intro (keep_all hbW _ _ k3) (show w.heap.size < (w1.alloc (.cells #[.int .i64 p.day, .int .i64 p.id, .int .i64 (p.legs.length : Int)] 3)).heap.size by
        have := World.block_lt_of_cell? w1 _ k3
        have h5 : w.heap.size < w1.heap.size := this
        omega))
      clear HV0 hbW hgW k1 k2 k3
      obtain ⟨g, hg⟩ : ∃ g, g = w1.heap.size := ⟨_, rfl⟩
      rw [← hg] at HV HG ⊢
      generalize (w1.alloc (.cells #[.int .i64 p.day, .int .i64 p.id, .int .i64 (p.legs.length : Int)] 3)) = W2 at *
      clear hg HB2
      have HA0 := hid' (show Held w (hb p 0) (.slice none 0 0) W2 from ⟨Owns.nil _ _, HBW.out⟩)
      have HR2 := hid' (Below.refl W2.heap.size W2)
      go_loopw [4, 21] (fun v iv wr => ∃ i : Nat, iv = .int .i64 (i : Int) ∧ i ≤ 3 ∧ Hid (Held w (hb p i) v wr) ∧ Hid (Below W2.heap.size W2 wr)) (fun _ iv _ => 3 - (intOf iv).toNat)
      case atStart => exact ⟨0, rfl, by omega, HA0, HR2⟩
      case round =>
        obtain ⟨i, rfl, hi3, HA, HB⟩ := hrel
        by_cases hi : i < 3
        · have hc := keep_all HB.out _ _ (HV.out i hi)
          have g0 : decide ((i : Int) < 3) = true := by simp; omega
          have HW := hid' (show (nums (hb p i)).length ≤ 140737488355300 ∧ -9223372036854775808 ≤ hv p i ∧ hv p i ≤ 9223372036854775807 from ⟨by rw [nums_length]; exact Nat.le_trans (hb_len p i hd hi' n1 (by omega)) (by omega), hv_in p i hd hi' n1⟩)
          go_wp2_with fail
          refine (putInt_any _ _ (hv p i) _ HA.out.own.reads HW.out.1 HW.out.2.1 HW.out.2.2).mono ?_
          intro e w3 hF
          obtain ⟨v', rfl, A', b'⟩ := Held.put HA.out hF
          have HA2 := hid' A'
          have HB2 := hid' (Below.more HB.out b')
          clear A' b' hF
          go_wp2_with fail
          go_roundw
          case rel => exact ⟨i + 1, by go_num, by omega, HA2, HB2⟩
          case measure => simp [intOf]; omega
        · obtain rfl : i = 3 := by omega
          rw [show ((3 : Nat) : Int) = (3 : Int) from rfl]
          have hc := keep_all HB.out _ _ HK3.out.1
          clear hi
          have HA1 := hid' (Held.legs0 HA.out)
          have HBA := hid' HA.out.bel
          obtain ⟨wq, hwq⟩ : ∃ wq : World, wq = wr := ⟨_, rfl⟩
          subst hwq
          clear HA HB HV HBW HG HK3 HA0 HR2
          go_wp2_with fail
          go_loopw [4, 32] (fun v iv wr => ∃ i : Nat, iv = .int .i64 (i : Int) ∧ i ≤ p.legs.length ∧ Hid (Held w (hb p 3 ++ encLegs (p.legs.take i)) v wr)) (fun _ iv _ => p.legs.length - (intOf iv).toNat)
          case atStart => exact ⟨0, rfl, by omega, HA1⟩
          case round =>
            obtain ⟨i, rfl, hin, HA⟩ := hrel
            by_cases hi : i < p.legs.length
            · obtain ⟨x, hx⟩ : ∃ x, p.legs[i]? = some x := ⟨_, List.getElem?_eq_getElem hi⟩
              have hfx := HF.out x (List.mem_of_getElem? hx)
              obtain ⟨x1, x2, x3, x4, x5, x6, x7⟩ := (HC.out.below h3 HA.out.bel) i x hx
              have g0 : decide ((i : Int) < (p.legs.length : Int)) = true := by simp; omega
              have j1 : (0 : Int) ≤ (i : Int) := by omega
              have j2 : (i : Int) < (p.legs.length : Int) := by omega
              have HST := hid' (encLegs_step p.legs i x hx)
              have HLN := hid' (show (hb p 3 ++ encLegs (p.legs.take i)).length ≤ 6000 by
                have h5 := hb_len p 3 hd hi' n1 (by omega)
                have h6 := encLegs_len (p.legs.take i) (fun y hy => HF.out y (List.mem_of_mem_take hy))
                rw [List.length_append, List.length_take] at *; omega)
              have HFX := hid' hfx
              have L0 := LegBox.new wr x
              have B0 : Below wr.heap.size wr (wr.alloc (.cells #[.string x.party, .string x.cur, .int .i64 x.amount] 41)) := (Below.refl _ _).alloc (Nat.le_refl _) _
              have HL0 := hid' L0
              have HB0 := hid' B0
              clear L0 B0 hx hfx
              go_wp2_with fail
              have HA1 := hid' (Held.below HA.out HB0.out)
              obtain ⟨W1, hW1⟩ : ∃ W1, wr.alloc (.cells #[.string x.party, .string x.cur, .int .i64 x.amount] 41) = W1 := ⟨_, rfl⟩
              rw [hW1] at HL0 HB0 HA1 ⊢
              clear hW1 x1 x2 x3
              refine (putText_any _ _ x.party W1 HA1.out.own.reads (by rw [nums_length]; have := HLN.out; have := HFX.out.party; omega)).mono ?_
              intro e w3 hF
              obtain ⟨v1, rfl, A1, b1⟩ := Held.text HA1.out hF
              have HA2 := hid' A1
              have HL2 := hid' (HL0.out.below b1)
              clear A1 b1 hF HL0 HA1
              obtain ⟨_, _, c2, _⟩ := HL2.out
              go_wp2_with fail
              refine (putText_any _ _ x.cur w3 HA2.out.own.reads (by rw [nums_length, List.length_append]; have := HLN.out; have := HFX.out.cur; have := HFX.out.party; have := txt_len x.party HFX.out.party; omega)).mono ?_
              intro e w4 hF
              obtain ⟨v2, rfl, A1, b1⟩ := Held.text HA2.out hF
              have HA3 := hid' A1
              have HL3 := hid' (HL2.out.below b1)
              clear A1 b1 hF HL2 HA2 c2
              obtain ⟨_, _, _, c3⟩ := HL3.out
              go_wp2_with fail
              refine (putInt_any _ _ x.amount w4 HA3.out.own.reads (by rw [nums_length, List.length_append, List.length_append]; have := HLN.out; have := txt_len x.party HFX.out.party; have := txt_len x.cur HFX.out.cur; omega) HFX.out.lo HFX.out.hi).mono ?_
              intro e w5 hF
              obtain ⟨v3, rfl, A1, b1⟩ := Held.put HA3.out hF
              have HA4 := hid' (Held.leg A1 HST.out)
              clear A1 b1 hF HL3 HA3 c3
              go_wp2_with fail
              go_roundw
              case rel => exact ⟨i + 1, by go_num, by omega, HA4⟩
              case measure => simp [intOf]; omega
            · obtain rfl : i = p.legs.length := by omega
              have g9 : decide (p.legs.length < p.legs.length) = false := by simp
              clear hi
              rw [List.take_length, ← enc_is] at HA
              go_wp2_with fail
              go_ret2
              exact ⟨_, by rw [HE.out]; rfl, by rw [HE.out]; exact HA.out.own, HA.out.bel⟩
end Go.Proofs.YtmmbhmlhenpgbaaDoor
