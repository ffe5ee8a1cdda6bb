/- Proved: lemmas and contracts of the functions that the law reaches, part 13 of 28: DnSearch. Conditions: as each states. -/
import Derived.Deep.DeepCutAuto
import Derived.IntWalk
import Derived.WalkMore
import Derived.Test.YtcpobnknmegkmaaGreatDoorDne6
import Derived.Test.YtcpobnknmegkmaaGreatDoorDne10
import Derived.Test.YtcpobnknmegkmaaGreatDoorDne12
namespace Go.Proofs.YtcpobnknmegkmaaGreatDoor
open Go.RowKit
open Rw
set_option linter.unusedVariables false
set_option linter.unusedSimpArgs false
set_option maxRecDepth 100000
/-- How texts stand to each other. -/
def cmpS (s t : ByteArray) : Int := if Fd.lt s t = true then -1 else if Fd.lt t s = true then 1 else 0
def cmpI (a b : Int) : Int := if a < b then -1 else if b < a then 1 else 0
theorem isNaNS_any (s : ByteArray) (w : World) : Calls Tryz.prog 74 #[.string s] w (Ret (.bool false) w) := by
  have g : (s.toList == s.toList) = true := beq_self_eq_true _
  have g2 : (s.toList != s.toList) = false := by rw [bne, g]; rfl
  go_enter Tryz.func74, Tryz.ntmps74
  go_wp2_with fail
  go_ret
  exact ⟨by first | rfl | simp, rfl⟩
theorem isNaNI_any (a : Int) (w : World) : Calls Tryz.prog 75 #[.int .i64 a] w (Ret (.bool false) w) := by
  have g : (a == a) = true := beq_self_eq_true _
  have g2 : (a != a) = false := by rw [bne, g]; rfl
  go_enter Tryz.func75, Tryz.ntmps75
  go_wp2_with fail
  go_ret
  exact ⟨by first | rfl | simp, rfl⟩
theorem less_eq {s t : List UInt8} (h : Op.bytesLess s t = false) (h2 : Op.bytesLess t s = false) : s = t := by
  rw [bytesLess_eq, decide_eq_false_iff_not] at h h2
  exact List.le_antisymm h2 h
theorem less_ne {s t : List UInt8} (h : Op.bytesLess t s = true) : (s == t) = false := by
  rw [beq_eq_false_iff_ne]
  rintro rfl
  rw [bytesLess_eq, decide_eq_true_eq] at h
  exact List.lt_irrefl _ h
theorem cmpS_any (s t : ByteArray) (w : World) : Calls Tryz.prog 52 #[.string s, .string t] w (Ret (.int .i64 (cmpS s t)) w) := by
  have h1 := hid' (isNaNS_any s w)
  have h2 := hid' (isNaNS_any t w)
  have e := hid' (show cmpS s t = if Op.bytesLess s.toList t.toList = true then -1 else if Op.bytesLess t.toList s.toList = true then 1 else 0 from rfl)
  rw [e.out]
  cases ha : Op.bytesLess s.toList t.toList with
  | true =>
    go_enter Tryz.func52, Tryz.ntmps52
    go_wp2_with (first | (go_at_call 74; refine h1.out.mono ?_; rintro e w' ⟨rfl, rfl⟩) | (go_at_call 74; refine h2.out.mono ?_; rintro e w' ⟨rfl, rfl⟩))
    go_ret
    exact ⟨rfl, rfl⟩
  | false =>
    cases hb : Op.bytesLess t.toList s.toList with
    | true =>
      have g2 : (s.toList == t.toList) = false := less_ne hb
      go_enter Tryz.func52, Tryz.ntmps52
      go_wp2_with (first | (go_at_call 74; refine h1.out.mono ?_; rintro e w' ⟨rfl, rfl⟩) | (go_at_call 74; refine h2.out.mono ?_; rintro e w' ⟨rfl, rfl⟩))
      go_ret
      exact ⟨rfl, rfl⟩
    | false =>
      have g2 : (s.toList == t.toList) = true := by rw [beq_iff_eq]; exact less_eq ha hb
      go_enter Tryz.func52, Tryz.ntmps52
      go_wp2_with (first | (go_at_call 74; refine h1.out.mono ?_; rintro e w' ⟨rfl, rfl⟩) | (go_at_call 74; refine h2.out.mono ?_; rintro e w' ⟨rfl, rfl⟩))
      go_ret
      exact ⟨rfl, rfl⟩
theorem cmpI_any (a b : Int) (w : World) : Calls Tryz.prog 55 #[.int .i64 a, .int .i64 b] w (Ret (.int .i64 (cmpI a b)) w) := by
  have h1 := hid' (isNaNI_any a w)
  have h2 := hid' (isNaNI_any b w)
  have e := hid' (show cmpI a b = if a < b then -1 else if b < a then 1 else 0 from rfl)
  by_cases ha : a < b
  · rw [e.out, if_pos ha]
    have g1 : decide (a < b) = true := decide_eq_true ha
    clear ha
    go_enter Tryz.func55, Tryz.ntmps55
    go_wp2_with (first | (go_at_call 75; refine h1.out.mono ?_; rintro e w' ⟨rfl, rfl⟩) | (go_at_call 75; refine h2.out.mono ?_; rintro e w' ⟨rfl, rfl⟩))
    go_ret
    exact ⟨rfl, rfl⟩
  · have g1 : decide (a < b) = false := decide_eq_false ha
    by_cases hb : b < a
    · rw [e.out, if_neg ha, if_pos hb]
      have g2 : decide (b < a) = true := decide_eq_true hb
      clear ha hb
      go_enter Tryz.func55, Tryz.ntmps55
      go_wp2_with (first | (go_at_call 75; refine h1.out.mono ?_; rintro e w' ⟨rfl, rfl⟩) | (go_at_call 75; refine h2.out.mono ?_; rintro e w' ⟨rfl, rfl⟩))
      go_ret
      exact ⟨rfl, rfl⟩
    · rw [e.out, if_neg ha, if_neg hb]
      have g2 : decide (b < a) = false := decide_eq_false hb
      clear ha hb
      go_enter Tryz.func55, Tryz.ntmps55
      go_wp2_with (first | (go_at_call 75; refine h1.out.mono ?_; rintro e w' ⟨rfl, rfl⟩) | (go_at_call 75; refine h2.out.mono ?_; rintro e w' ⟨rfl, rfl⟩))
      go_ret
      exact ⟨rfl, rfl⟩
theorem dfeed1_any (n s : ByteArray) (sv : Value) (w : World) : Calls Tryz.prog 51 #[.agg #[.string n, sv], .string s] w (Gives (.int .i64 (cmpS n s)) w) := by
  have HC := hid' (fun W => cmpS_any n s W)
  have B0 := hid' ((Below.refl w.heap.size w).alloc (Nat.le_refl _) (.cells #[.string n, sv] 46))
  generalize cmpS n s = x at *
  go_enter Tryz.func51, Tryz.ntmps51
  go_wp2_with (first | (go_at_call 52; refine (HC.out _).mono ?_; rintro e w' ⟨rfl, rfl⟩))
  go_ret
  exact ⟨rfl, B0.out⟩
theorem dfeed2_any (d n b : Int) (w : World) : Calls Tryz.prog 54 #[.agg #[.int .i64 d, .int .i64 n], .int .i64 b] w (Gives (.int .i64 (cmpI d b)) w) := by
  have HC := hid' (fun W => cmpI_any d b W)
  have B0 := hid' ((Below.refl w.heap.size w).alloc (Nat.le_refl _) (.cells #[.int .i64 d, .int .i64 n] 43))
  generalize cmpI d b = x at *
  go_enter Tryz.func54, Tryz.ntmps54
  go_wp2_with (first | (go_at_call 55; refine (HC.out _).mono ?_; rintro e w' ⟨rfl, rfl⟩))
  go_ret
  exact ⟨rfl, B0.out⟩
namespace Fd
theorem at_eq' {F : List Feed} {j : Nat} {g : Feed} (h : F[j]? = some g) : at' F j = g := by unfold at'; rw [h]; rfl
theorem at_some {F : List Feed} {j : Nat} (h : j < F.length) : F[j]? = some (at' F j) := by unfold at'; rw [List.getElem?_eq_getElem h]; rfl
theorem lt_before {F : List Feed} (hok : Ok F) {h : Nat} {x : Feed} (hx : at' F h = x) {s : ByteArray} (hl : lt x.1 s = true) {k : Nat} (hk : k < h) (hh : h < F.length) : lt (at' F k).1 s = true :=
  lt_trans (rises hok h k hk hh) (by rw [hx]; exact hl)
end Fd
/-- Where the first is that is not less. -/
theorem countP_here (p : Nat → Bool) (i : Nat) : ∀ n, i ≤ n → (∀ k, k < i → p k = true) → (∀ k, i ≤ k → k < n → p k = false) → (List.range n).countP p = i
  | 0, h, _, _ => by
    obtain rfl : i = 0 := by omega
    rfl
  | n + 1, h, h1, h2 => by
    rw [List.range_succ, List.countP_append]
    by_cases e : i ≤ n
    · rw [countP_here p i n e h1 (fun k a b => h2 k a (by omega))]
      have := h2 n e (by omega)
      simp [this]
    · obtain rfl : i = n + 1 := by omega
      have hn := h1 n (by omega)
      have ha : (List.range n).countP p = n := by
        rw [countP_here p n n (Nat.le_refl _) (fun k a => h1 k (by omega)) (fun k a b => by omega)]
      rw [ha]
      simp [hn]
theorem cmpS_neg (s t : ByteArray) : decide (cmpS s t < 0) = Fd.lt s t := by
  unfold cmpS
  cases Fd.lt s t with
  | true => rfl
  | false => cases Fd.lt t s <;> rfl
def foundS (F : List Fd.Feed) (i : Nat) (s : ByteArray) : Bool := match F[i]? with | none => false | some f => cmpS f.1 s == 0
set_option maxHeartbeats 4000000 in
theorem bsFeeds_any (F : List Fd.Feed) (hok : Fd.Ok F) (name : ByteArray) (vf : Value) (w : World) (hF : FeedsAt w vf F) :
    Calls Tryz.prog 50 #[vf, .string name, .func (.func 51) #[] #[]] w (Gives (.tuple #[.int .i64 (Fd.place F name : Int), .bool (foundS F (Fd.place F name) name)]) w) := by
  have hFl : F.length ≤ 64 := hok.1
  have HOK := hid' hok
  obtain ⟨p, c, rfl, ⟨hl1, hl2⟩, hf⟩ := hF
  have HF := hid' hf
  obtain ⟨R, hR⟩ : ∃ R : Nat, Hid (R = Fd.place F name) := ⟨_, rfl⟩
  rw [← hR.out]
  clear hf hok hl1 hl2
  go_enter Tryz.func50, Tryz.ntmps50
  go_wp2_with fail
  go_loopw [9, 10] (fun iv jv wr => ∃ i j : Nat, iv = .int .i64 (i : Int) ∧ jv = .int .i64 (j : Int) ∧ (i ≤ j ∧ j ≤ F.length) ∧ Hid ((∀ k, k < i → Fd.lt (Fd.at' F k).1 name = true) ∧ ∀ k, j ≤ k → k < F.length → Fd.lt (Fd.at' F k).1 name = false) ∧ Hid (Below w.heap.size w wr)) (fun iv jv _ => (intOf jv).toNat - (intOf iv).toNat)
  case atStart => exact ⟨0, F.length, rfl, rfl, ⟨Nat.zero_le _, Nat.le_refl _⟩, hid' ⟨fun k h => by omega, fun k h1 h2 => by omega⟩, hid' (Below.refl _ _)⟩
  case round =>
    obtain ⟨i, j, rfl, rfl, ⟨hij, hj⟩, HS, HB⟩ := hrel
    by_cases hlt : i < j
    · have g0 : decide ((i : Int) < (j : Int)) = true := by simp; omega
      obtain ⟨h, hh⟩ : ∃ h, h = (i + j) / 2 := ⟨_, rfl⟩
      have h1 : i ≤ h ∧ h < j := by omega
      have v1 : IntKind.i64.wrap ((i : Int) + (j : Int)) = (i : Int) + (j : Int) := IntWalk.i64_in _ (by omega)
      have v2 : ((i : Int) + (j : Int)) / 2 = (h : Int) := by omega
      clear hh
      obtain ⟨x, hx⟩ : ∃ x, F[h]? = some x := ⟨_, List.getElem?_eq_getElem (by omega)⟩
      obtain ⟨fb, fo, sv, rfl, hfb, ⟨x0, x1⟩, -, -⟩ := HF.out h x hx
      replace x0 := keep_all HB.out _ _ x0
      replace x1 := keep_all HB.out _ _ x1
      have j1 : (0 : Int) ≤ (h : Int) := by omega
      have j2 : (h : Int) < (F.length : Int) := by omega
      have HX := hid' (Fd.at_eq' hx)
      have HC := hid' (fun W => dfeed1_any x.1 name sv W)
      have HL := hid' (cmpS_neg x.1 name)
      have wi : IntKind.i64.wrap ((h : Int) + 1) = (h : Int) + 1 := IntWalk.i64_in _ (by omega)
      obtain ⟨cc, hcc⟩ : ∃ cc, Hid (cmpS x.1 name = cc) := ⟨_, hid' rfl⟩
      rw [hcc.out] at HC HL
      clear hx hfb
      cases hl : Fd.lt x.1 name with
      | true =>
        have g1 : decide (cc < 0) = true := by rw [HL.out, hl]
        have HN := hid' (show (∀ k, k < h + 1 → Fd.lt (Fd.at' F k).1 name = true) ∧ ∀ k, j ≤ k → k < F.length → Fd.lt (Fd.at' F k).1 name = false from ⟨fun k hk => by
          by_cases e : k = h
          · subst e; rw [HX.out]; exact hl
          · exact Fd.lt_before HOK.out HX.out hl (by omega) (by omega), HS.out.2⟩)
        clear hl HS HL
        go_wp2_with (first | (go_at_call 51; refine (HC.out _).mono ?_; rintro e w2 ⟨rfl, b2⟩; have HB2 := hid' (Below.more HB.out b2); clear b2))
        go_roundw
        case rel => exact ⟨h + 1, j, by go_num, rfl, by omega, HN, HB2⟩
        case measure => simp only [intOf]; omega
      | false =>
        have g1 : decide (cc < 0) = false := by rw [HL.out, hl]
        have HN := hid' (show (∀ k, k < i → Fd.lt (Fd.at' F k).1 name = true) ∧ ∀ k, h ≤ k → k < F.length → Fd.lt (Fd.at' F k).1 name = false from ⟨HS.out.1, fun k h2 h3 => by
          cases hk : Fd.lt (Fd.at' F k).1 name with
          | false => rfl
          | true =>
            by_cases e : k = h
            · subst e; rw [HX.out, hl] at hk; cases hk
            · have := Fd.lt_before HOK.out (Fd.at_eq' (Fd.at_some h3)) hk (show h < k by omega) h3
              rw [HX.out, hl] at this
              cases this⟩)
        clear hl HS HL
        go_wp2_with (first | (go_at_call 51; refine (HC.out _).mono ?_; rintro e w2 ⟨rfl, b2⟩; have HB2 := hid' (Below.more HB.out b2); clear b2))
        go_roundw
        case rel => exact ⟨i, h, rfl, rfl, by omega, HN, HB2⟩
        case measure => simp only [intOf]; omega
    · obtain rfl : i = j := by omega
      have g0 : decide (i < i) = false := by simp
      have g0i : decide ((i : Int) < (i : Int)) = false := by simp
      have hp : Fd.place F name = i := by
        unfold Fd.place
        refine countP_here _ i _ (hj) (fun k hk => ?_) (fun k h1 h2 => ?_)
        · rw [HS.out.1 k hk]; rfl
        · rw [HS.out.2 k h1 h2]; rfl
      obtain rfl : R = i := by rw [hR.out, hp]
      clear hp hR HS hlt
      by_cases hR' : R < F.length
      · obtain ⟨x, hx⟩ : ∃ x, F[R]? = some x := ⟨_, List.getElem?_eq_getElem hR'⟩
        have HFD := hid' (show foundS F R name = (cmpS x.1 name == 0) by unfold foundS; rw [hx])
        obtain ⟨fb, fo, sv, rfl, hfb, ⟨x0, x1⟩, -, -⟩ := HF.out R x hx
        replace x0 := keep_all HB.out _ _ x0
        replace x1 := keep_all HB.out _ _ x1
        have g1 : decide ((R : Int) < (F.length : Int)) = true := by simp; omega
        have g2 : decide (R < F.length) = true := by simp; omega
        have j1 : (0 : Int) ≤ (R : Int) := by omega
        have j2 : (R : Int) < (F.length : Int) := by omega
        have HC := hid' (fun W => dfeed1_any x.1 name sv W)
        obtain ⟨cc, hcc⟩ : ∃ cc, Hid (cmpS x.1 name = cc) := ⟨_, hid' rfl⟩
        rw [hcc.out] at HFD HC
        clear hx hfb hR'
        go_wp2_with (first | (go_at_call 51; refine (HC.out _).mono ?_; rintro e w2 ⟨rfl, b2⟩; have HB2 := hid' (Below.more HB.out b2); clear b2))
        go_ret2
        exact ⟨by rw [HFD.out]; rfl, HB2.out⟩
      · obtain rfl : R = F.length := by omega
        have HFD := hid' (show foundS F F.length name = false by unfold foundS; rw [List.getElem?_eq_none (Nat.le_refl _)])
        clear hR'
        go_wp2_with fail
        go_ret2
        exact ⟨by rw [HFD.out]; rfl, HB.out⟩
theorem cmpI_neg (a b : Int) : decide (cmpI a b < 0) = decide (a < b) := by
  unfold cmpI
  by_cases h : a < b
  · rw [if_pos h, decide_eq_true h]; rfl
  · rw [if_neg h, decide_eq_false h]
    by_cases h2 : b < a
    · rw [if_pos h2]; rfl
    · rw [if_neg h2]; rfl
def Fd.lower (l : List (Int × Int)) (d : Int) : Nat := (List.range l.length).countP fun k => decide ((Fd.stampAt l k).1 < d)
def Fd.Rise (l : List (Int × Int)) : Prop := l.length ≤ 4096 ∧ ∀ (b a : Nat), a < b → b < l.length → (Fd.stampAt l a).1 < (Fd.stampAt l b).1
namespace Fd
theorem stampAt_eq' {l : List (Int × Int)} {j : Nat} {g : Int × Int} (h : l[j]? = some g) : stampAt l j = g := by unfold stampAt; rw [h]; rfl
theorem stampAt_some {l : List (Int × Int)} {j : Nat} (h : j < l.length) : l[j]? = some (stampAt l j) := by unfold stampAt; rw [List.getElem?_eq_getElem h]; rfl
theorem day_before {l : List (Int × Int)} (hok : Rise l) {h : Nat} {x : Int × Int} (hx : stampAt l h = x) {d : Int} (hl : decide (x.1 < d) = true) {k : Nat} (hk : k < h) (hh : h < l.length) : decide ((stampAt l k).1 < d) = true := by
  have := hok.2 h k hk hh
  rw [hx] at this
  have := of_decide_eq_true hl
  exact decide_eq_true (by omega)
end Fd
def foundI (F : List (Int × Int)) (i : Nat) (s : Int) : Bool := match F[i]? with | none => false | some f => cmpI f.1 s == 0
set_option maxHeartbeats 4000000 in
theorem bsStamps_any (F : List (Int × Int)) (hok : Fd.Rise F) (name : Int) (vf : Value) (w : World) (hF : StampsAt w vf F) :
    Calls Tryz.prog 53 #[vf, .int .i64 name, .func (.func 54) #[] #[]] w (Gives (.tuple #[.int .i64 (Fd.lower F name : Int), .bool (foundI F (Fd.lower F name) name)]) w) := by
  have hFl : F.length ≤ 4096 := hok.1
  have HOK := hid' hok
  obtain ⟨p, c, rfl, ⟨hl1, hl2⟩, hf⟩ := hF
  have HF := hid' hf
  obtain ⟨R, hR⟩ : ∃ R : Nat, Hid (R = Fd.lower F name) := ⟨_, rfl⟩
  rw [← hR.out]
  clear hf hok hl1 hl2
  go_enter Tryz.func53, Tryz.ntmps53
  go_wp2_with fail
  go_loopw [9, 10] (fun iv jv wr => ∃ i j : Nat, iv = .int .i64 (i : Int) ∧ jv = .int .i64 (j : Int) ∧ (i ≤ j ∧ j ≤ F.length) ∧ Hid ((∀ k, k < i → decide ((Fd.stampAt F k).1 < name) = true) ∧ ∀ k, j ≤ k → k < F.length → decide ((Fd.stampAt F k).1 < name) = false) ∧ Hid (Below w.heap.size w wr)) (fun iv jv _ => (intOf jv).toNat - (intOf iv).toNat)
  case atStart => exact ⟨0, F.length, rfl, rfl, ⟨Nat.zero_le _, Nat.le_refl _⟩, hid' ⟨fun k h => by omega, fun k h1 h2 => by omega⟩, hid' (Below.refl _ _)⟩
  case round =>
    obtain ⟨i, j, rfl, rfl, ⟨hij, hj⟩, HS, HB⟩ := hrel
    by_cases hlt : i < j
    · have g0 : decide ((i : Int) < (j : Int)) = true := by simp; omega
      obtain ⟨h, hh⟩ : ∃ h, h = (i + j) / 2 := ⟨_, rfl⟩
      have h1 : i ≤ h ∧ h < j := by omega
      have v1 : IntKind.i64.wrap ((i : Int) + (j : Int)) = (i : Int) + (j : Int) := IntWalk.i64_in _ (by omega)
      have v2 : ((i : Int) + (j : Int)) / 2 = (h : Int) := by omega
      clear hh
      obtain ⟨x, hx⟩ : ∃ x, F[h]? = some x := ⟨_, List.getElem?_eq_getElem (by omega)⟩
      obtain ⟨fb, fo, rfl, hfb, ⟨x0, x1⟩, -, -⟩ := HF.out h x hx
      replace x0 := keep_all HB.out _ _ x0
      replace x1 := keep_all HB.out _ _ x1
      have j1 : (0 : Int) ≤ (h : Int) := by omega
      have j2 : (h : Int) < (F.length : Int) := by omega
      have HX := hid' (Fd.stampAt_eq' hx)
      have HC := hid' (fun W => dfeed2_any x.1 x.2 name W)
      have HL := hid' (cmpI_neg x.1 name)
      have wi : IntKind.i64.wrap ((h : Int) + 1) = (h : Int) + 1 := IntWalk.i64_in _ (by omega)
      obtain ⟨cc, hcc⟩ : ∃ cc, Hid (cmpI x.1 name = cc) := ⟨_, hid' rfl⟩
      rw [hcc.out] at HC HL
      clear hx hfb
      cases hl : decide (x.1 < name) with
      | true =>
        have g1 : decide (cc < 0) = true := by rw [HL.out, hl]
        have HN := hid' (show (∀ k, k < h + 1 → decide ((Fd.stampAt F k).1 < name) = true) ∧ ∀ k, j ≤ k → k < F.length → decide ((Fd.stampAt F k).1 < name) = false from ⟨fun k hk => by
          by_cases e : k = h
          · subst e; rw [HX.out]; exact hl
          · exact Fd.day_before HOK.out HX.out hl (by omega) (by omega), HS.out.2⟩)
        clear hl HS HL
        go_wp2_with (first | (go_at_call 54; refine (HC.out _).mono ?_; rintro e w2 ⟨rfl, b2⟩; have HB2 := hid' (Below.more HB.out b2); clear b2))
        go_roundw
        case rel => exact ⟨h + 1, j, by go_num, rfl, by omega, HN, HB2⟩
        case measure => simp only [intOf]; omega
      | false =>
        have g1 : decide (cc < 0) = false := by rw [HL.out, hl]
        have HN := hid' (show (∀ k, k < i → decide ((Fd.stampAt F k).1 < name) = true) ∧ ∀ k, h ≤ k → k < F.length → decide ((Fd.stampAt F k).1 < name) = false from ⟨HS.out.1, fun k h2 h3 => by
          cases hk : decide ((Fd.stampAt F k).1 < name) with
          | false => rfl
          | true =>
            by_cases e : k = h
            · subst e; rw [HX.out, hl] at hk; cases hk
            · have := Fd.day_before HOK.out (Fd.stampAt_eq' (Fd.stampAt_some h3)) hk (show h < k by omega) h3
              rw [HX.out, hl] at this
              cases this⟩)
        clear hl HS HL
        go_wp2_with (first | (go_at_call 54; refine (HC.out _).mono ?_; rintro e w2 ⟨rfl, b2⟩; have HB2 := hid' (Below.more HB.out b2); clear b2))
        go_roundw
        case rel => exact ⟨i, h, rfl, rfl, by omega, HN, HB2⟩
        case measure => simp only [intOf]; omega
    · obtain rfl : i = j := by omega
      have g0 : decide (i < i) = false := by simp
      have g0i : decide ((i : Int) < (i : Int)) = false := by simp
      have hp : Fd.lower F name = i := by
        unfold Fd.lower
        refine countP_here _ i _ (hj) (fun k hk => ?_) (fun k h1 h2 => ?_)
        · exact HS.out.1 k hk
        · exact HS.out.2 k h1 h2
      obtain rfl : R = i := by rw [hR.out, hp]
      clear hp hR HS hlt
      by_cases hR' : R < F.length
      · obtain ⟨x, hx⟩ : ∃ x, F[R]? = some x := ⟨_, List.getElem?_eq_getElem hR'⟩
        have HFD := hid' (show foundI F R name = (cmpI x.1 name == 0) by unfold foundI; rw [hx])
        obtain ⟨fb, fo, rfl, hfb, ⟨x0, x1⟩, -, -⟩ := HF.out R x hx
        replace x0 := keep_all HB.out _ _ x0
        replace x1 := keep_all HB.out _ _ x1
        have g1 : decide ((R : Int) < (F.length : Int)) = true := by simp; omega
        have g2 : decide (R < F.length) = true := by simp; omega
        have j1 : (0 : Int) ≤ (R : Int) := by omega
        have j2 : (R : Int) < (F.length : Int) := by omega
        have HC := hid' (fun W => dfeed2_any x.1 x.2 name W)
        obtain ⟨cc, hcc⟩ : ∃ cc, Hid (cmpI x.1 name = cc) := ⟨_, hid' rfl⟩
        rw [hcc.out] at HFD HC
        clear hx hfb hR'
        go_wp2_with (first | (go_at_call 54; refine (HC.out _).mono ?_; rintro e w2 ⟨rfl, b2⟩; have HB2 := hid' (Below.more HB.out b2); clear b2))
        go_ret2
        exact ⟨by rw [HFD.out]; rfl, HB2.out⟩
      · obtain rfl : R = F.length := by omega
        have HFD := hid' (show foundI F F.length name = false by unfold foundI; rw [List.getElem?_eq_none (Nat.le_refl _)])
        clear hR'
        go_wp2_with fail
        go_ret2
        exact ⟨by rw [HFD.out]; rfl, HB.out⟩
end Go.Proofs.YtcpobnknmegkmaaGreatDoor
