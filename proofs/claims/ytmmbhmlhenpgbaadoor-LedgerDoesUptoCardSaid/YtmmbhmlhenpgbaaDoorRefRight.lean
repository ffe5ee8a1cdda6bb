/- Proved: the reference's less and Right as contracts: they tell which postings are right. -/
import Derived.Test.YtmmbhmlhenpgbaaDoorLedRight
import Derived.Test.YtmmbhmlhenpgbaaDoorRefNames
import Derived.WalkLawsBesides
namespace Go.Proofs.YtmmbhmlhenpgbaaDoor
open Go.RowKit
open Led
set_option linter.unusedVariables false
set_option linter.unusedSimpArgs false
set_option maxRecDepth 100000
theorem bytesLess_is (l m : List UInt8) : Op.bytesLess l m = decide (Lib.compareBytes l m < 0) := by
  induction l generalizing m with
  | nil => cases m <;> rfl
  | cons a t ih =>
    cases m with
    | nil => rfl
    | cons b u =>
      rw [Op.bytesLess, Lib.compareBytes, ih]
      by_cases h1 : a < b
      · simp [h1]
      · by_cases h2 : b < a
        · have h3 : ¬ a = b := by rintro rfl; simp at h2
          simp [h1, h2, h3]
        · have h1' : ¬ a.toNat < b.toNat := by simpa [UInt8.lt_iff_toNat_lt] using h1
          have h2' : ¬ b.toNat < a.toNat := by simpa [UInt8.lt_iff_toNat_lt] using h2
          have e : a = b := UInt8.toNat_inj.1 (by omega)
          subst e
          simp
theorem compareBytes_zero (l m : List UInt8) : Lib.compareBytes l m = 0 ↔ l = m := by
  induction l generalizing m with
  | nil => cases m <;> simp [Lib.compareBytes]
  | cons a t ih =>
    cases m with
    | nil => simp [Lib.compareBytes]
    | cons b u =>
      rw [Lib.compareBytes]
      by_cases h1 : a < b
      · simp [h1]; intro e; subst e; simp at h1
      · by_cases h2 : b < a
        · simp [h1, h2]; intro e; subst e; simp at h2
        · rw [if_neg h1, if_neg h2, ih]
          have e : a = b := by
            have h1' : ¬ a.toNat < b.toNat := by simpa [UInt8.lt_iff_toNat_lt] using h1
            have h2' : ¬ b.toNat < a.toNat := by simpa [UInt8.lt_iff_toNat_lt] using h2
            exact UInt8.toNat_inj.1 (by omega)
          simp [e]
theorem ba_eq_iff {a b : ByteArray} : a.data.toList = b.data.toList ↔ a = b := ⟨ba_ext, fun h => by rw [h]⟩
set_option maxHeartbeats 1000000 in
theorem less_any (p c p' c' : ByteArray) (n n' : Int) (w : World) : Calls Tryd.prog 52 #[.agg #[.string p, .string c, .int .i64 n], .agg #[.string p', .string c', .int .i64 n']] w (Gives (.bool (decide (cmp p c p' c' < 0))) w) := by
  have HC := hid' (show cmp p c p' c' = orI (Lib.compareBytes p.data.toList p'.data.toList) (Lib.compareBytes c.data.toList c'.data.toList) from rfl)
  have l1 : Op.bytesLess p.toList p'.toList = decide (Lib.compareBytes p.data.toList p'.data.toList < 0) := by rw [ByteArray.toList_eq, ByteArray.toList_eq]; exact bytesLess_is _ _
  have l2 : Op.bytesLess c.toList c'.toList = decide (Lib.compareBytes c.data.toList c'.data.toList < 0) := by rw [ByteArray.toList_eq, ByteArray.toList_eq]; exact bytesLess_is _ _
  have hz := compareBytes_zero p.data.toList p'.data.toList
  rw [ba_eq_iff] at hz
  rw [HC.out]
  generalize Lib.compareBytes p.data.toList p'.data.toList = x at *
  generalize Lib.compareBytes c.data.toList c'.data.toList = y at *
  by_cases h0 : x = 0
  · obtain rfl := hz.1 h0
    subst h0
    rw [orI_zero]
    rw [show decide ((0 : Int) < 0) = false from rfl] at l1
    obtain ⟨by', hby⟩ : ∃ b, decide (y < 0) = b := ⟨_, rfl⟩
    rw [hby] at l2 ⊢
    clear hz HC hby
    go_enter Tryd.func52, Tryd.ntmps52
    go_wp2_with fail
    exact bodyPost_ret (v := .bool by') (by simp [results, Tryd.results52, go_sem]) rfl ⟨rfl, ((Below.refl _ _).alloc (Nat.le_refl _) _).alloc (by simp) _⟩
  · have hne : ¬ p.toList = p'.toList := fun e => h0 (hz.2 (ba_eq_iff.1 (by rwa [ByteArray.toList_eq, ByteArray.toList_eq] at e)))
    rw [orI_ne _ h0]
    obtain ⟨bx, hbx⟩ : ∃ b, decide (x < 0) = b := ⟨_, rfl⟩
    rw [hbx] at l1 ⊢
    clear hz HC hbx l2
    cases bx with
    | true =>
      go_enter Tryd.func52, Tryd.ntmps52
      go_wp2_with fail
      exact bodyPost_ret (v := .bool true) (by simp [results, Tryd.results52, go_sem]) rfl ⟨rfl, ((Below.refl _ _).alloc (Nat.le_refl _) _).alloc (by simp) _⟩
    | false =>
      go_enter Tryd.func52, Tryd.ntmps52
      go_wp2_with fail
      exact bodyPost_ret (v := .bool false) (by simp [results, Tryd.results52, go_sem]) rfl ⟨rfl, ((Below.refl _ _).alloc (Nat.le_refl _) _).alloc (by simp) _⟩
set_option maxRecDepth 100000 in
set_option maxHeartbeats 2000000 in
theorem refRight_early (p : Post) (lv : Value) (w : World) (hl : LegsAt w lv p.legs) (hd : -9223372036854775808 ≤ p.day ∧ p.day ≤ 9223372036854775807) (hi : -9223372036854775808 ≤ p.id ∧ p.id ≤ 9223372036854775807) (h : head p = false) :
    Calls Tryd.prog 29 #[.agg #[.int .i64 p.day, .int .i64 p.id, lv]] w (Gives (.bool (right p)) w) := by
  rw [right_head_false h]
  obtain ⟨day, id, legs⟩ := p
  obtain ⟨pp, cap, hlv, hlen⟩ : ∃ pp cap, lv = .slice pp legs.length cap ∧ legs.length ≤ 9223372036854775807 := by
    rcases hl with ⟨⟨p0, rfl⟩, h1⟩ | ⟨b, off, cap, rfl, h1, h2, h3, h4⟩
    · exact ⟨p0, 0, by simp at h1; subst h1; rfl, by simp at h1; subst h1; simp⟩
    · exact ⟨_, cap, rfl, by unfold maxLen at h2; simp at h1; omega⟩
  subst hlv
  have hc : day < 0 ∨ (¬ day < 0 ∧ 73048 < day) ∨ (¬ day < 0 ∧ ¬ 73048 < day ∧ id < 1) ∨ (¬ day < 0 ∧ ¬ 73048 < day ∧ ¬ id < 1 ∧ 2147483647 < id) ∨ (¬ day < 0 ∧ ¬ 73048 < day ∧ ¬ id < 1 ∧ ¬ 2147483647 < id ∧ (legs.length : Int) < 2) ∨ (¬ day < 0 ∧ ¬ 73048 < day ∧ ¬ id < 1 ∧ ¬ 2147483647 < id ∧ ¬ (legs.length : Int) < 2 ∧ 64 < (legs.length : Int)) := by
    unfold head at h
    simp only [Bool.and_eq_false_iff, decide_eq_false_iff_not] at h
    omega
  clear h hl
  rcases hc with h1 | ⟨h1, h2⟩ | ⟨h1, h2, h3⟩ | ⟨h1, h2, h3, h4⟩ | ⟨h1, h2, h3, h4, h5⟩ | ⟨h1, h2, h3, h4, h5, h6⟩
  all_goals go_enter Tryd.func29, Tryd.ntmps29
  all_goals go_wp2_with fail
  all_goals go_ret
  all_goals exact ⟨rfl, (Below.refl _ _).alloc (Nat.le_refl _) _⟩


def inR (x : Leg) : Bool := decide (-1000000000000000 ≤ x.amount) && decide (x.amount ≤ 1000000000000000)
/-- The sum of what is in range. -/
def sumF (c : ByteArray) : List Leg → Int
  | [] => 0
  | x :: t => (if x.cur = c ∧ inR x = true then x.amount else 0) + sumF c t
theorem sumF_snoc (c : ByteArray) (l : List Leg) (x : Leg) : sumF c (l ++ [x]) = sumF c l + (if x.cur = c ∧ inR x = true then x.amount else 0) := by
  induction l with
  | nil => simp [sumF]
  | cons y t ih => rw [List.cons_append, sumF, sumF, ih]; omega
theorem inR_is {x : Leg} (h : inR x = true) : -1000000000000000 ≤ x.amount ∧ x.amount ≤ 1000000000000000 := by
  unfold inR at h
  simpa using h
theorem sumF_le (c : ByteArray) (l : List Leg) : -(1000000000000000 * (l.length : Int)) ≤ sumF c l ∧ sumF c l ≤ 1000000000000000 * (l.length : Int) := by
  induction l with
  | nil => simp [sumF]
  | cons x t ih =>
    rw [sumF, List.length_cons]
    split
    · rename_i h
      have := inR_is h.2
      omega
    · omega
theorem sumF_ok (c : ByteArray) (l : List Leg) (h : l.all legOk = true) : sumF c l = sumOf c l := by
  induction l with
  | nil => rfl
  | cons x t ih =>
    simp only [List.all_cons, Bool.and_eq_true] at h
    have h1 := legOk_amount h.1
    have hr : inR x = true := by unfold inR; simp [h1]
    rw [sumF, sumOf, ih h.2]
    simp [hr]
theorem sumF_not {legs : List Leg} {k : Nat} {x : Leg} (hx : legs[k]? = some x) (h : sumF x.cur legs ≠ 0) : (legs.all legOk && (rising legs && even legs)) = false := by
  cases ha : legs.all legOk with
  | false => rfl
  | true =>
    have : even legs = false := by
      unfold even
      rw [List.all_eq_false]
      refine ⟨x, List.mem_of_getElem? hx, ?_⟩
      rw [sumF_ok _ _ ha] at h
      simpa using h
    rw [this]; simp
theorem sumF_even {legs : List Leg} (ha : legs.all legOk = true) (h : ∀ (j : Nat) (x : Leg), j < legs.length → legs[j]? = some x → sumF x.cur legs = 0) : even legs = true := by
  unfold even
  rw [List.all_eq_true]
  intro x hx
  obtain ⟨j, hj⟩ := List.getElem?_of_mem hx
  have := h j x (List.getElem?_eq_some_iff.1 hj).1 hj
  rw [sumF_ok _ _ ha] at this
  simpa using this
/-- What holds at the head of the reference's loop over the legs. -/
structure RefAt (w : World) (b off cap : Nat) (legs : List Leg) (k : Nat) (wr : World) : Prop where
  bel : Below w.heap.size w wr
  box : wr.cell? ⟨w.heap.size, 2, none⟩ = some (.slice (some ⟨b, off, none⟩) legs.length cap)
  size : w.heap.size + 1 ≤ wr.heap.size
  ok : (legs.take k).all legOk = true
  ris : rising (legs.take k) = true
  sums : ∀ (j : Nat) (x : Leg), j < k → legs[j]? = some x → sumF x.cur legs = 0
theorem RefAt.step {w : World} {b off cap : Nat} {legs : List Leg} {k : Nat} {wr w3 : World} {x : Leg} (A : RefAt w b off cap legs k wr) (B : Below wr.heap.size wr w3)
    (hx : legs[k]? = some x) (hok : legOk x = true) (hb : badAt legs k x = false) (hs : sumF x.cur legs = 0) : RefAt w b off cap legs (k + 1) w3 := by
  refine ⟨Below.more A.bel B, keep_all B _ _ A.box, Nat.le_trans A.size B.size, ?_, ?_, ?_⟩
  · rw [take_snoc legs k x hx, List.all_append, A.ok]; simp [hok]
  · rw [badAt_rising hx A.ris, hb]; rfl
  · intro j y hj hy
    by_cases e : j = k
    · subst e
      rw [hx] at hy
      cases hy; exact hs
    · exact A.sums j y (by omega) hy
set_option maxRecDepth 100000 in
set_option maxHeartbeats 4000000 in
theorem refRight_main (p : Post) (b off cap : Nat) (w : World) (h1 : p.legs.length ≤ cap) (h2 : cap ≤ maxLen) (h3 : b < w.heap.size) (h4 : LegCells w b off p.legs)
    (hh : head p = true) :
    Calls Tryd.prog 29 #[.agg #[.int .i64 p.day, .int .i64 p.id, .slice (some ⟨b, off, none⟩) p.legs.length cap]] w (Gives (.bool (right p)) w) := by
  obtain ⟨d1, d2, i1, i2, n1, n2⟩ := head_parts hh
  have HR := hid' (show right p = (p.legs.all legOk && (rising p.legs && even p.legs)) by unfold right; rw [hh]; rfl)
  obtain ⟨day, id, legs⟩ := p
  dsimp only at *
  generalize hrp : right ⟨day, id, legs⟩ = rp at *
  clear hrp hh
  unfold maxLen at h2
  have n1' : (2 : Int) ≤ (legs.length : Int) := by omega
  have n2' : (legs.length : Int) ≤ 64 := by omega
  have q1 : decide (day < 0) = false := by simp; omega
  have q2 : decide (73048 < day) = false := by simp; omega
  have q3 : decide (id < 1) = false := by simp; omega
  have q4 : decide (2147483647 < id) = false := by simp; omega
  have q5 : decide ((legs.length : Int) < 2) = false := by simp; omega
  have q6 : decide (64 < (legs.length : Int)) = false := by simp; omega
  go_enter Tryd.func29, Tryd.ntmps29
  go_wp2_with fail
  have B0 : Below w.heap.size w (w.alloc (.cells #[.int .i64 day, .int .i64 id, .slice (some ⟨b, off, none⟩) legs.length cap] 24)) := (Below.refl _ _).alloc (Nat.le_refl _) _
  have R0 : RefAt w b off cap legs 0 (w.alloc (.cells #[.int .i64 day, .int .i64 id, .slice (some ⟨b, off, none⟩) legs.length cap] 24)) :=
    ⟨B0, new_cell rfl rfl, by simp, rfl, rfl, fun j x h _ => by omega⟩
  clear B0
  have HR0 := hid' R0
  clear R0
  generalize (w.alloc (.cells #[.int .i64 day, .int .i64 id, .slice (some ⟨b, off, none⟩) legs.length cap] 24)) = W0 at *
  go_loopw [3] (fun v wr => ∃ k : Nat, v = .int .i64 (k : Int) ∧ k ≤ legs.length ∧ Hid (RefAt w b off cap legs k wr)) (fun v _ => legs.length - (intOf v).toNat)
  case atStart => exact ⟨0, rfl, Nat.zero_le _, HR0⟩
  case round =>
    obtain ⟨k, rfl, hk, HA⟩ := hrel
    have hbox := HA.out.box
    by_cases hkn : k < legs.length
    · obtain ⟨x, hx⟩ : ∃ x, legs[k]? = some x := ⟨_, List.getElem?_eq_getElem hkn⟩
      obtain ⟨x1, x2, x3, x4, x5, x6, x7⟩ := (h4.below h3 (by exact (HA.out.bel.mono (Nat.le_refl _)))) k x hx
      have HX := hid' hx
      clear hx
      have L0 := LegBox.new wr x
      have B0 : Below wr.heap.size wr (wr.alloc (.cells #[.string x.party, .string x.cur, .int .i64 x.amount] 41)) := (Below.refl _ _).alloc (Nat.le_refl _) _
      have HL0 := hid' L0
      have HB0 := hid' B0
      clear L0 B0
      go_wp2_with fail
      obtain ⟨W1, hW1⟩ : ∃ W1, wr.alloc (.cells #[.string x.party, .string x.cur, .int .i64 x.amount] 41) = W1 := ⟨_, rfl⟩
      rw [hW1] at HL0 HB0 ⊢
      clear hW1
      refine (refIsName_any x.party W1 x4).mono ?_
      rintro e w1 ⟨rfl, rfl⟩
      obtain ⟨lt2, p2, c2, m2⟩ := HL0.out
      have hbx := keep_all HB0.out _ _ HA.out.box
      go_wp2_with fail
      refine (refIsCur_any x.cur w1 x5).mono ?_
      rintro e w2 ⟨rfl, rfl⟩
      have HB2 := HB0
      have HL2 := HL0
      cases hn : isName x.party with
      | false =>
        have hv := hid' (not_ok_right (k := k) HX.out (show legOk x = false by unfold legOk; rw [hn]; rfl))
        clear hn
        go_wp2_with fail
        go_ret
        exact ⟨by rw [HR.out, hv.out]; rfl, Below.more HA.out.bel HB2.out⟩
      | true =>
        have hloc : legOk x = (isCur x.cur && (decide (x.amount ≠ 0) && (decide (-1000000000000000 ≤ x.amount) && decide (x.amount ≤ 1000000000000000)))) := by unfold legOk; rw [hn]; rfl
        clear hn
        cases hcu : isCur x.cur with
        | false =>
          have hv := hid' (not_ok_right (k := k) HX.out (show legOk x = false by rw [hloc, hcu]; rfl))
          clear hcu hloc
          go_wp2_with fail
          go_ret
          exact ⟨by rw [HR.out, hv.out]; rfl, Below.more HA.out.bel HB2.out⟩
        | true =>
          rw [hcu, Bool.true_and] at hloc
          clear hcu
          have HLO := hid' hloc
          clear hloc
          by_cases a0 : x.amount = 0
          · have hv := hid' (not_ok_right (k := k) HX.out (show legOk x = false by rw [HLO.out, a0]; rfl))
            rw [a0] at m2
            clear a0
            go_wp2_with fail
            go_ret
            exact ⟨by rw [HR.out, hv.out]; rfl, Below.more HA.out.bel HB2.out⟩
          · have a0' : (x.amount == 0) = false := by rw [beq_eq_false_iff_ne]; exact a0
            by_cases a1 : x.amount < -1000000000000000
            · have hv := hid' (not_ok_right (k := k) HX.out (show legOk x = false by rw [HLO.out, decide_eq_true a0, decide_eq_false (by omega : ¬ -1000000000000000 ≤ x.amount)]; rfl))
              have a1' : decide (x.amount < -1000000000000000) = true := by simpa using a1
              clear a1 a0
              go_wp2_with fail
              go_ret
              exact ⟨by rw [HR.out, hv.out]; rfl, Below.more HA.out.bel HB2.out⟩
            · have a1' : decide (x.amount < -1000000000000000) = false := by simpa using a1
              by_cases a2 : 1000000000000000 < x.amount
              · have hv := hid' (not_ok_right (k := k) HX.out (show legOk x = false by rw [HLO.out, decide_eq_true a0, decide_eq_true (by omega : -1000000000000000 ≤ x.amount), decide_eq_false (by omega : ¬ x.amount ≤ 1000000000000000)]; rfl))
                have a2' : decide (1000000000000000 < x.amount) = true := by simpa using a2
                clear a1 a0 a2
                go_wp2_with fail
                go_ret
                exact ⟨by rw [HR.out, hv.out]; rfl, Below.more HA.out.bel HB2.out⟩
              · have a2' : decide (1000000000000000 < x.amount) = false := by simpa using a2
                have HOK := hid' (show legOk x = true by rw [HLO.out, decide_eq_true a0, decide_eq_true (by omega : -1000000000000000 ≤ x.amount), decide_eq_true (by omega : x.amount ≤ 1000000000000000)]; rfl)
                have am1 : -1000000000000000 ≤ x.amount := by omega
                have am2 : x.amount ≤ 1000000000000000 := by omega
                clear a1 a0 a2 HLO x6 x7
                go_upto_region 11 with (fail)
                go_cut [90] (fun v wx => v = .bool (badAt legs k x) ∧ ∃ wn, wn = wx ∧ Below w2.heap.size w2 wn)
                case first =>
                  rcases Nat.eq_zero_or_pos k with rfl | hk0
                  · have g0 : decide ((0 : Int) < ((0 : Nat) : Int)) = false := rfl
                    go_quiet (fail)
                    go_wp2_with fail
                    go_meet
                    exact ⟨rfl, _, rfl, Below.drewn (Below.refl _ _) _⟩
                  · obtain ⟨j, rfl⟩ : ∃ j, k = j + 1 := ⟨k - 1, by omega⟩
                    obtain ⟨y, hy⟩ : ∃ y, legs[j]? = some y := ⟨_, List.getElem?_eq_getElem (by omega)⟩
                    have hB2 : Below w.heap.size w w2 := Below.more HA.out.bel HB2.out
                    obtain ⟨y1, y2, y3, y4, y5, y6, y7⟩ := (h4.below h3 hB2) j y hy
                    have hbad := hid' (show badAt legs (j + 1) x = !rises y x by show (match legs[j]? with | some y => !rises y x | none => false) = _; rw [hy])
                    have g0 : decide ((0 : Int) < (j : Int) + 1) = true := by simp; try omega
                    have g1 : decide ((0 : Int) < ((j + 1 : Nat) : Int)) = true := by simp; try omega
                    have g2 : IntKind.i64.wrap ((j : Int) + 1 - 1) = (j : Int) := by rw [IntWalk.i64_in _ (by omega)]; omega
                    have g3 : IntKind.i64.wrap (j : Int) = (j : Int) := IntWalk.i64_in _ (by omega)
                    have g4 : IntKind.i64.wrap (((j + 1 : Nat) : Int) - 1) = (j : Int) := by rw [IntWalk.i64_in _ (by omega)]; omega
                    have g5 : (0 : Int) ≤ (j : Int) := by omega
                    have g6 : (j : Int) < (legs.length : Int) := by omega
                    have b20 := Below.refl w2.heap.size w2
                    clear hy y4 y5 y6 y7 x1 x2 x3 x4 x5 hB2 am1 am2 a0' a1' a2' lt2 q1 q2 q3 q4 q5 q6
                    go_region_held3 (fun w' => w'.cell? ⟨w.heap.size, 2, none⟩ = some (.slice (some ⟨b, off, none⟩) legs.length cap) ∧ w'.cell? ⟨b, off + j * 3, none⟩ = some (.string y.party) ∧ w'.cell? ⟨b, off + j * 3 + 1, none⟩ = some (.string y.cur) ∧ w'.cell? ⟨b, off + j * 3 + 2, none⟩ = some (.int .i64 y.amount) ∧ w'.cell? ⟨wr.heap.size, 0, none⟩ = some (.string x.party) ∧ w'.cell? ⟨wr.heap.size, 1, none⟩ = some (.string x.cur) ∧ w'.cell? ⟨wr.heap.size, 2, none⟩ = some (.int .i64 x.amount) ∧ Below w2.heap.size w2 w') (first | exact ⟨drew_cell hbx, drew_cell y1, drew_cell y2, drew_cell y3, drew_cell p2, drew_cell c2, drew_cell m2, b20.drew⟩ | simp [*])
                      (first | (go_at_call 52; refine (less_any _ _ _ _ _ _ _).mono ?_; rintro e w1 ⟨rfl, b1⟩; have hk := keep_all b1; have hk2 := keep_below (w2 := w2) b1))
                    go_wp2_with fail
                    go_meet
                    refine ⟨?_, _, rfl, by simp [*]⟩
                    rw [hbad.out]; rfl
                case rest =>
                  obtain ⟨rfl, w3, rfl, b3⟩ := hcut
                  have HL3 := hid' (HL2.out.below b3)
                  have HB3 := hid' (Below.more HB2.out b3)
                  clear HL2 HB2 HL0 HB0 p2 c2 m2 lt2 b3 hbx
                  cases hbd : badAt legs k x with
                  | true =>
                    have hv := hid' (bad_right HX.out HA.out.ris hbd)
                    clear hbd
                    go_wp2_with fail
                    go_ret
                    exact ⟨by rw [HR.out, hv.out]; rfl, Below.more HA.out.bel HB3.out⟩
                  | false =>
                    have HBD := hid' hbd
                    clear hbd x1 x2 x3
                    go_wp2_with fail
                    have HS0 := hid' (Below.refl w3.heap.size w3)
                    have hbx3 := keep_all HB3.out _ _ HA.out.box
                    obtain ⟨lt3, p3, c3, m3⟩ := HL3.out
                    have HB4 := hid' (Below.more HA.out.bel HB3.out)
                    have HB2x : Hid (b < w3.heap.size) := Nat.lt_of_lt_of_le h3 HB4.out.size
                    have HH4 : Hid (LegCells w3 b off legs) := h4.below h3 HB4.out
                    have HC3 := hid' (show wr.heap.size < w3.heap.size ∧ w.heap.size < w3.heap.size from ⟨lt3, by have := HA.out.size; omega⟩)
                    have H3 := hid' (And.intro hbx3 (And.intro c3 trivial))
                    clear hbx3 c3 p3 m3 lt3 h4 hbox
                    obtain ⟨wo, hwo⟩ : ∃ wo : World, wo = wr := ⟨_, rfl⟩
                    subst hwo
                    go_loopw [7, 8] (fun sv jv wz => ∃ j : Nat, jv = .int .i64 (j : Int) ∧ j ≤ legs.length ∧ (∃ sm : Int, sv = .int .i64 sm ∧ Hid (sm = sumF x.cur (legs.take j))) ∧ Hid (Below w3.heap.size w3 wz)) (fun _ jv _ => legs.length - (intOf jv).toNat)
                    case atStart => exact ⟨0, rfl, Nat.zero_le _, ⟨0, rfl, hid' rfl⟩, HS0⟩
                    case round =>
                      obtain ⟨j, rfl, hj, ⟨sm, rfl, HSM⟩, HBz⟩ := hrel
                      have hbz := (HBz.out.cell (p := ⟨w.heap.size, 2, none⟩) HC3.out.2).trans H3.out.1
                      have hcz := (HBz.out.cell (p := ⟨wo.heap.size, 1, none⟩) HC3.out.1).trans H3.out.2.1
                      by_cases hjn : j < legs.length
                      · obtain ⟨y, hy⟩ : ∃ y, legs[j]? = some y := ⟨_, List.getElem?_eq_getElem hjn⟩
                        obtain ⟨y1, y2, y3, y4, y5, y6, y7⟩ := (HH4.out.below HB2x.out HBz.out) j y hy
                        have hsl := sumF_le x.cur (legs.take j)
                        rw [← HSM.out, List.length_take] at hsl
                        have hs1 : -64000000000000000 ≤ sm := by omega
                        have hs2 : sm ≤ 64000000000000000 := by omega
                        have HSN := hid' (show sumF x.cur (legs.take (j + 1)) = sm + (if y.cur = x.cur ∧ inR y = true then y.amount else 0) by rw [take_snoc legs j y hy, sumF_snoc, ← HSM.out])
                        have g0 : decide ((j : Int) < (legs.length : Int)) = true := by simp; omega
                        have g5 : (0 : Int) ≤ (j : Int) := by omega
                        have g6 : (j : Int) < (legs.length : Int) := by omega
                        clear hy hsl y1 y4 y5 y6 y7
                        by_cases hcur : y.cur = x.cur
                        · rw [hcur] at y2
                          by_cases r1 : -1000000000000000 ≤ y.amount
                          · by_cases r2 : y.amount ≤ 1000000000000000
                            · have HN2 := hid' (show sm + y.amount = sumF x.cur (legs.take (j + 1)) by rw [HSN.out, if_pos ⟨hcur, by unfold inR; simp [r1, r2]⟩])
                              have r1' : decide (-1000000000000000 ≤ y.amount) = true := by simpa using r1
                              have r2' : decide (y.amount ≤ 1000000000000000) = true := by simpa using r2
                              have y3' := y3
                              clear hcur HSN
                              go_upto_region 17 with (fail)
                              go_quiet (fail)
                              go_wp2_with fail
                              go_roundw
                              case rel => exact ⟨j + 1, by go_num, by omega, ⟨_, rfl, HN2⟩, hid' (Below.drewn HBz.out _)⟩
                              case measure => simp [intOf]; omega
                            · have HN2 := hid' (show sm = sumF x.cur (legs.take (j + 1)) by rw [HSN.out, if_neg (by rintro ⟨_, h⟩; have := inR_is h; omega)]; omega)
                              have r1' : decide (-1000000000000000 ≤ y.amount) = true := by simpa using r1
                              have r2' : decide (y.amount ≤ 1000000000000000) = false := by simpa using r2
                              clear hcur HSN
                              go_upto_region 17 with (fail)
                              go_quiet (fail)
                              go_wp2_with fail
                              go_roundw
                              case rel => exact ⟨j + 1, by go_num, by omega, ⟨_, rfl, HN2⟩, hid' (Below.drewn HBz.out _)⟩
                              case measure => simp [intOf]; omega
                          · have HN2 := hid' (show sm = sumF x.cur (legs.take (j + 1)) by rw [HSN.out, if_neg (by rintro ⟨_, h⟩; have := inR_is h; omega)]; omega)
                            have r1' : decide (-1000000000000000 ≤ y.amount) = false := by simpa using r1
                            clear hcur HSN
                            go_upto_region 17 with (fail)
                            go_quiet (fail)
                            go_wp2_with fail
                            go_roundw
                            case rel => exact ⟨j + 1, by go_num, by omega, ⟨_, rfl, HN2⟩, hid' (Below.drewn HBz.out _)⟩
                            case measure => simp [intOf]; omega
                        · have HN2 := hid' (show sm = sumF x.cur (legs.take (j + 1)) by rw [HSN.out, if_neg (fun h => hcur h.1)]; omega)
                          have hne : ¬ y.cur.toList = x.cur.toList := fun e => hcur (ba_eq_iff.1 (by rwa [ByteArray.toList_eq, ByteArray.toList_eq] at e))
                          have hne2 : (y.cur.toList == x.cur.toList) = false := by simpa using hne
                          clear hcur HSN
                          go_upto_region 17 with (fail)
                          go_quiet (fail)
                          go_wp2_with fail
                          go_roundw
                          case rel => exact ⟨j + 1, by go_num, by omega, ⟨_, rfl, HN2⟩, hid' (Below.drewn HBz.out _)⟩
                          case measure => simp [intOf]; omega
                      · obtain rfl : j = legs.length := by omega
                        have g9 : decide (legs.length < legs.length) = false := by simp
                        rw [List.take_length] at HSM
                        clear hjn
                        by_cases hz : sm = 0
                        · have HA2 := hid' (RefAt.step HA.out (Below.more HB3.out HBz.out) HX.out HOK.out HBD.out (by rw [← HSM.out]; exact hz))
                          have hz' : (sm != 0) = false := by rw [hz]; rfl
                          clear hz
                          go_wp2_with fail
                          go_roundw
                          case rel => exact ⟨k + 1, by go_num, by omega, HA2⟩
                          case measure => simp [intOf]; omega
                        · have hv := hid' (sumF_not (k := k) HX.out (by rw [← HSM.out]; exact hz))
                          have hz' : (sm != 0) = true := by rw [bne_iff_ne]; exact hz
                          clear hz
                          go_wp2_with fail
                          go_ret
                          exact ⟨by rw [HR.out, hv.out]; rfl, Below.more HA.out.bel (Below.more HB3.out HBz.out)⟩
    · obtain rfl : k = legs.length := by omega
      have hv := hid' (show rp = true by
        have e1 : legs.all legOk = true := by have := HA.out.ok; rwa [List.take_length] at this
        have e2 : rising legs = true := by have := HA.out.ris; rwa [List.take_length] at this
        rw [HR.out, e1, e2, sumF_even e1 (fun j x h1 h2 => HA.out.sums j x h1 h2)]; rfl)
      clear hkn
      have g9 : decide (legs.length < legs.length) = false := by simp
      go_wp2_with fail
      go_ret
      exact ⟨by rw [hv.out]; rfl, HA.out.bel⟩
theorem refRight_any (p : Post) (lv : Value) (w : World) (hl : LegsAt w lv p.legs) (hd : -9223372036854775808 ≤ p.day ∧ p.day ≤ 9223372036854775807) (hi : -9223372036854775808 ≤ p.id ∧ p.id ≤ 9223372036854775807) :
    Calls Tryd.prog 29 #[.agg #[.int .i64 p.day, .int .i64 p.id, lv]] w (Gives (.bool (right p)) w) := by
  cases hh : head p with
  | false => exact refRight_early p lv w hl hd hi hh
  | true =>
    rcases hl with ⟨⟨p0, rfl⟩, h1⟩ | ⟨b, off, cap, rfl, h1, h2, h3, h4⟩
    · obtain ⟨_, _, _, _, n1, _⟩ := head_parts hh
      have : p.legs = [] := by simpa using h1
      rw [this] at n1; simp at n1
    · exact refRight_main p b off cap w h1 h2 h3 h4 hh
end Go.Proofs.YtmmbhmlhenpgbaaDoor
