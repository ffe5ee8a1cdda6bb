/- Digits read: the program's Unhex and the reference's. -/
import Derived.Test.YthhmedpafjdocaaDoorMacHex
import Derived.BigQuiet
import Derived.Deep.QuietTactic
namespace Go.Proofs.YthhmedpafjdocaaDoor
open Go.RowKit
set_option linter.unusedVariables false

/-! What pairs of digits say, pair by pair. -/
def pa (l : List Int) (i : Nat) : Int := Sha.val (l.getD (2 * i) 0)
def pb (l : List Int) (i : Nat) : Int := Sha.val (l.getD (2 * i + 1) 0)
def pv (l : List Int) (i : Nat) : Int := 16 * pa l i + pb l i
def good (l : List Int) (i : Nat) : Prop := 0 ≤ pa l i ∧ 0 ≤ pb l i
theorem val_range (n : Int) : -1 ≤ Sha.val n ∧ Sha.val n ≤ 15 := by
  unfold Sha.val
  split
  · omega
  · split <;> omega
theorem pa_cons (a b : Int) (r : List Int) (i : Nat) : pa (a :: b :: r) (i + 1) = pa r i := by
  simp [pa, show 2 * (i + 1) = 2 * i + 1 + 1 by omega]
theorem pb_cons (a b : Int) (r : List Int) (i : Nat) : pb (a :: b :: r) (i + 1) = pb r i := by
  simp [pb, show 2 * (i + 1) + 1 = 2 * i + 1 + 1 + 1 by omega]
theorem unhexs_all : ∀ (n : Nat) (l : List Int), l.length = 2 * n → (∀ i, i < n → good l i) → Sha.unhexs l = some ((List.range n).map (pv l))
  | 0, l, h, _ => by
    obtain rfl : l = [] := List.length_eq_zero_iff.1 (by omega)
    rfl
  | n + 1, l, h, hg => by
    match l, h with
    | a :: b :: r, h =>
      have h0 := hg 0 (by omega)
      have ih := unhexs_all n r (by simp at h; omega) (fun i hi => by have := hg (i + 1) (by omega); unfold good at this ⊢; rwa [pa_cons, pb_cons] at this)
      have g1 : ¬ (Sha.val a < 0 ∨ Sha.val b < 0) := by
        have e1 : 0 ≤ Sha.val a := h0.1
        have e2 : 0 ≤ Sha.val b := h0.2
        omega
      rw [Sha.unhexs, if_neg g1, ih, List.range_succ_eq_map, List.map_cons, List.map_map]
      simp only [Option.map_some]
      have e : List.map (pv (a :: b :: r) ∘ Nat.succ) (List.range n) = List.map (pv r) (List.range n) := by
        apply List.map_congr_left
        intro i _
        simp [pv, pa_cons, pb_cons]
      rw [e]
      rfl
theorem unhexs_bad : ∀ (t : Nat) (l : List Int), 2 * t + 2 ≤ l.length → ¬ good l t → Sha.unhexs l = none
  | 0, l, h, hb => by
    match l, h with
    | a :: b :: r, h =>
      have : Sha.val a < 0 ∨ Sha.val b < 0 := by
        rcases Int.lt_or_le (Sha.val a) 0 with h1 | h1
        · exact Or.inl h1
        · rcases Int.lt_or_le (Sha.val b) 0 with h2 | h2
          · exact Or.inr h2
          · exact (hb ⟨h1, h2⟩).elim
      rw [Sha.unhexs, if_pos this]
  | t + 1, l, h, hb => by
    match l, h with
    | a :: b :: r, h =>
      have ih := unhexs_bad t r (by simp at h; omega) (fun g => hb (by unfold good at g ⊢; rwa [pa_cons, pb_cons]))
      rw [Sha.unhexs]
      split
      · rfl
      · rw [ih]; rfl
theorem unhexs_odd : ∀ (n : Nat) (l : List Int), l.length = 2 * n + 1 → Sha.unhexs l = none
  | 0, l, h => by
    match l, h with
    | [a], _ => rfl
  | n + 1, l, h => by
    match l, h with
    | a :: b :: r, h =>
      have ih := unhexs_odd n r (by simp at h; omega)
      rw [Sha.unhexs]
      split
      · rfl
      · rw [ih]; rfl
theorem pv_byte (l : List Int) (i : Nat) (h : good l i) : 0 ≤ pv l i ∧ pv l i ≤ 255 := by
  have := val_range (l.getD (2 * i) 0)
  have := val_range (l.getD (2 * i + 1) 0)
  unfold good pa pb at h
  unfold pv pa pb
  omega
theorem or_nibbles : ∀ a b : Fin 16, bits .or .i64 ((a.val : Int) * 16) (b.val : Int) = 16 * (a.val : Int) + (b.val : Int) := by decide +kernel
theorem or_nib (a b : Int) (a0 : 0 ≤ a) (a1 : a ≤ 15) (b0 : 0 ≤ b) (b1 : b ≤ 15) : bits .or .i64 (a * 16) b = 16 * a + b := by
  have := or_nibbles ⟨a.toNat, by omega⟩ ⟨b.toNat, by omega⟩
  simp only [Int.toNat_of_nonneg a0, Int.toNat_of_nonneg b0] at this
  exact this
theorem index_val : ∀ n : Fin 256, Lib.indexByte [48, 49, 50, 51, 52, 53, 54, 55, 56, 57, 97, 98, 99, 100, 101, 102] (UInt8.ofNat n.val) = Sha.val (n.val : Int) := by decide +kernel

def UnhexPost (w : World) (l : List Int) (e : Ending) (w' : World) : Prop :=
  e = .returned (.tuple #[.string (strOfNums ((Sha.unhexs l).getD [])), .bool (Sha.unhexs l).isSome]) ∧ Below w.heap.size w w'

theorem indexByte_any (x : Int) (w : World) (h0 : 0 ≤ x) (h1 : x ≤ 255) :
    Calls Tryd.prog 28 #[.string ⟨#[48, 49, 50, 51, 52, 53, 54, 55, 56, 57, 97, 98, 99, 100, 101, 102]⟩, .int .u8 x] w fun e w' => e = .returned (.int .i64 (Sha.val x)) ∧ w' = w := by
  have e : Lib.indexByte [48, 49, 50, 51, 52, 53, 54, 55, 56, 57, 97, 98, 99, 100, 101, 102] x.toNat.toUInt8 = Sha.val x := by
    have := index_val ⟨x.toNat, by omega⟩
    simp only [Int.toNat_of_nonneg h0] at this
    exact this
  have := Tryd.strings_IndexByte ⟨#[48, 49, 50, 51, 52, 53, 54, 55, 56, 57, 97, 98, 99, 100, 101, 102]⟩ x w
  rwa [show (⟨#[48, 49, 50, 51, 52, 53, 54, 55, 56, 57, 97, 98, 99, 100, 101, 102]⟩ : ByteArray).data.toList = [48, 49, 50, 51, 52, 53, 54, 55, 56, 57, 97, 98, 99, 100, 101, 102] from rfl, e] at this
theorem digit_any (n : Int) (w : World) (h0 : 0 ≤ n) (h1 : n ≤ 255) :
    Calls Tryd.prog 29 #[.int .u8 n] w fun e w' => e = .returned (.int .i64 (Sha.val n)) ∧ w = w' := by
  go_enter Tryd.func29, Tryd.ntmps29
  go_wp2
  all_goals
    go_ret
    refine ⟨congrArg (fun x => Ending.returned (.int .i64 x)) ?_, rfl⟩
    show _ = Sha.val n
    unfold Sha.val
    first | omega | (split <;> first | rfl | omega | (split <;> first | rfl | omega))

structure UnAt (w wr : World) (l : List Int) (n t : Nat) : Prop where
  bel : Below w.heap.size w wr
  row : wr.rowIs w.heap.size 5 n (fun i => .int .u8 (if i < t then pv l i else 0))
  ok : ∀ i, i < t → good l i
theorem UnAt.start (w : World) (l : List Int) (n : Nat) : UnAt w (w.alloc (.cells (Array.replicate n (.int .u8 0)) 5)) l n 0 :=
  ⟨(Below.refl _ _).alloc (Nat.le_refl _) _, (rowIs_newest w _ _ n (fun _ => .int .u8 0) (by simp) (fun i hi => zeros_cell _ _ _ hi)).congr fun i _ => by rw [if_neg (by omega)], fun i hi => by omega⟩
theorem UnAt.step {w wr : World} {l : List Int} {n t : Nat} (U : UnAt w wr l n t) (ht : t < n) (hg : good l t) {x : Int} (hx : x = pv l t) : UnAt w (wr.setCell ⟨w.heap.size, t, none⟩ (.int .u8 x)) l n (t + 1) := by
  refine ⟨U.bel.setCell (by simp) _, (U.row.set t _).congr ?_, fun i hi => ?_⟩
  · intro i hi
    subst hx
    by_cases e : i = t
    · subst e
      rw [if_pos rfl, if_pos (by omega)]
    · rw [if_neg e]
      by_cases e2 : i < t
      · rw [if_pos e2, if_pos (by omega)]
      · rw [if_neg e2, if_neg (by omega)]
  · by_cases e : i = t
    · subst e; exact hg
    · exact U.ok i (by omega)
theorem UnAt.drawN {w wr : World} {l : List Int} {n t : Nat} (U : UnAt w wr l n t) (k : Nat) : UnAt w (wr.drewN k) l n t :=
  ⟨⟨U.bel.os, U.bel.tape, U.bel.output, U.bel.size, U.bel.block⟩, U.row, U.ok⟩

set_option maxHeartbeats 1000000 in
theorem unhex_any (s : ByteArray) (w : World) (hs : s.size ≤ 10000000000000) :
    Calls Tryd.prog 15 #[.string s] w (UnhexPost w (Sha.nums s)) := by
  by_cases hodd : s.size % 2 = 1
  · have hn := unhexs_odd (s.size / 2) (Sha.nums s) (by rw [Sha.nums_length]; omega)
    have HN := hid' hn
    clear hn
    have t1 : ((s.size : Int) % 2 == 0) = false := by rw [beq_eq_false_iff_ne]; omega
    have t2 : ((s.size : Int) % 2 != 0) = true := by rw [bne_iff_ne]; omega
    have t3 : (0 : Int) ≤ (s.size : Int) := by omega
    clear hodd
    go_enter Tryd.func15, Tryd.ntmps15
    go_wp2_with fail
    go_ret2
    exact ⟨by rw [HN.out]; rfl, Below.refl _ _⟩
  · obtain ⟨n, hn⟩ : ∃ n, s.size = 2 * n := ⟨s.size / 2, by omega⟩
    have hL : (Sha.nums s).length = 2 * n := by rw [Sha.nums_length]; exact hn
    have t1 : ((s.size : Int) % 2 == 0) = true := by rw [beq_iff_eq]; omega
    have t2 : ((s.size : Int) % 2 != 0) = false := by rw [bne_eq_false_iff_eq]; omega
    have t3 : (0 : Int) ≤ (s.size : Int) := by omega
    have t4 : (s.size : Int) / 2 = (n : Int) := by omega
    have hmk := fun w => make_bytes w n n (Nat.le_refl _) (by omega)
    have S0 := UnAt.start w (Sha.nums s) n
    have HNN := hid' hn
    have HLL := hid' hL
    have hnb : n ≤ 10000000000000 := by omega
    clear hodd hn hL
    go_enter Tryd.func15, Tryd.ntmps15
    go_wp2_with fail
    clear hmk t1 t2
    go_loopw [18] (fun vi wr => ∃ t : Nat, t ≤ n ∧ vi = .int .i64 t ∧ UnAt w wr (Sha.nums s) n t) (fun vi _ => n - (intOf vi).toNat)
    case atStart => exact ⟨0, by omega, rfl, S0⟩
    case round =>
      clear S0
      obtain ⟨t, ht, rfl, U⟩ := hrel
      by_cases hlt : t < n
      · have hz : 2 * t + 1 < s.size := by have := HNN.out; omega
        have z1 := nums_at s (2 * t) (by omega)
        have z2 := nums_at s (2 * t + 1) (by omega)
        have g1 := Sha.nums_getD s (2 * t) (by omega)
        have g2 := Sha.nums_getD s (2 * t + 1) (by omega)
        have hpa : Sha.val ((Sha.nums s).getD (2 * t) 0) = pa (Sha.nums s) t := rfl
        have hpb : Sha.val ((Sha.nums s).getD (2 * t + 1) 0) = pb (Sha.nums s) t := rfl
        have v1 := val_range ((Sha.nums s).getD (2 * t) 0)
        have v2 := val_range ((Sha.nums s).getD (2 * t + 1) 0)
        rw [hpa] at v1
        rw [hpb] at v2
        have a1 : 2 * (t : Int) < (s.size : Int) := by omega
        have a2 : 2 * (t : Int) + 1 < (s.size : Int) := by omega
        have a3 : 0 ≤ 2 * (t : Int) := by omega
        have a4 : 0 ≤ 2 * (t : Int) + 1 := by omega
        have w1 : IntKind.i64.wrap (2 * (t : Int)) = 2 * (t : Int) := IntWalk.i64_in _ (by omega)
        have w2 : IntKind.i64.wrap (2 * (t : Int) + 1) = 2 * (t : Int) + 1 := IntWalk.i64_in _ (by omega)
        have n1 : (2 * (t : Int)).toNat = 2 * t := by omega
        have n2 : (2 * (t : Int) + 1).toNat = 2 * t + 1 := by omega
        have t0 : (t : Int) < (n : Int) := by omega
        generalize (Sha.nums s).getD (2 * t) 0 = x at *
        generalize (Sha.nums s).getD (2 * t + 1) 0 = y at *
        have g1' := g1.symm
        have g2' := g2.symm
        clear g1 g2
        have HA := hid' hpa
        have HB := hid' hpb
        clear hpa hpb
        obtain ⟨x0, x1⟩ := z1
        obtain ⟨y0, y1⟩ := z2
        go_wp2_with fail
        go_quiet ((first | (go_at_call 28; exact Calls.quiet_of_same (indexByte_any _ _ (by omega) (by omega)))))
        have U2 := U.drawN nq
        clear U g1' g2' a1 a2 a3 a4 w1 w2 n1 n2
        generalize wr.drewN nq = wr2 at U2 ⊢
        rw [HA.out, HB.out]
        have hpv : pv (Sha.nums s) t = 16 * pa (Sha.nums s) t + pb (Sha.nums s) t := rfl
        have hgd : good (Sha.nums s) t ↔ (0 ≤ pa (Sha.nums s) t ∧ 0 ≤ pb (Sha.nums s) t) := Iff.rfl
        have HPV := hid' hpv
        have HGD := hid' hgd
        clear hpv hgd HA HB
        generalize pa (Sha.nums s) t = p at *
        generalize pb (Sha.nums s) t = q at *
        by_cases hp : p < 0
        · have hb := unhexs_bad t (Sha.nums s) (by have := HLL.out; omega) (fun g => by have := (HGD.out.1 g).1; omega)
          have HB := hid' hb
          clear hb
          go_wp2_with fail
          go_ret2
          exact ⟨by rw [HB.out]; rfl, U2.bel⟩
        · by_cases hq : q < 0
          · have hb := unhexs_bad t (Sha.nums s) (by have := HLL.out; omega) (fun g => by have := (HGD.out.1 g).2; omega)
            have HB := hid' hb
            clear hb
            go_wp2_with fail
            go_ret2
            exact ⟨by rw [HB.out]; rfl, U2.bel⟩
          · have eor := or_nib p q (by omega) (by omega) (by omega) (by omega)
            have c0 := U2.row.cell hlt
            have f0 := U2.row.frozen t
            have p0 : 0 ≤ p := by omega
            have q0 : 0 ≤ q := by omega
            have p1 : p ≤ 15 := by omega
            have q1 : q ≤ 15 := by omega
            have U3 := U2.step hlt (HGD.out.2 ⟨p0, q0⟩) HPV.out.symm
            go_wp2_with fail
            go_roundw
            case rel => exact ⟨t + 1, by omega, by go_num, U3⟩
            case measure => simp [intOf]; omega
      · obtain rfl : t = n := by omega
        have hall := unhexs_all t (Sha.nums s) HLL.out U.ok
        have hcv := conv_row (c := t) U.row (xs := (List.range t).map (pv (Sha.nums s))) (by simp) (fun i hi => by rw [if_pos hi, List.getD_eq_getElem?_getD, List.getElem?_map, List.getElem?_range hi]; rfl)
        have HA := hid' hall
        clear hall
        go_wp2_with fail
        go_ret2
        exact ⟨by rw [HA.out]; rfl, U.bel⟩
end Go.Proofs.YthhmedpafjdocaaDoor
