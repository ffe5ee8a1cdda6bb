/- Proved: the methods of the reference's reader, as contracts: int, text, count. -/
import Derived.Test.YtiejoapnljkjdaaGreatDoorGenDec
import Derived.Test.YtiejoapnljkjdaaGreatDoorRefTakeWalk
namespace Go.Proofs.YtiejoapnljkjdaaGreatDoor
open Go.RowKit
set_option linter.unusedVariables false
set_option linter.unusedSimpArgs false
set_option maxRecDepth 100000
namespace Gen
/-- What the reference's reader answers: nothing, where something went wrong. -/
def vI (l : List UInt8) (a : Nat) (ok : Bool) : Int := bif oI l a ok then numV l a else 0
def vS (l : List UInt8) (a : Nat) (ok : Bool) : ByteArray := bif oS l a ok then txtV l a else ⟨#[]⟩
theorem Inv.int' {l : List UInt8} {f : Int → Rd Cd} {a : Nat} {ok : Bool} (h : Inv l (bnd rdI f) a ok) : Inv l (f (vI l a ok)) (nI l a ok) (oI l a ok) := by
  have := h.int
  unfold vI
  cases hb : oI l a ok with
  | false => rw [hb] at this; exact this.bad
  | true => rw [hb] at this; exact this
theorem Inv.text' {l : List UInt8} {f : ByteArray → Rd Cd} {a : Nat} {ok : Bool} (h : Inv l (bnd rdS f) a ok) : Inv l (f (vS l a ok)) (nS l a ok) (oS l a ok) := by
  have := h.text
  unfold vS
  cases hb : oS l a ok with
  | false => rw [hb] at this; exact this.bad
  | true => rw [hb] at this; exact this
theorem vI_in (l : List UInt8) (a : Nat) (ok : Bool) : -9223372036854775808 ≤ vI l a ok ∧ vI l a ok ≤ 9223372036854775807 := by
  unfold vI
  cases oI l a ok with
  | false => rw [cond_false]; exact ⟨by omega, by omega⟩
  | true => exact numV_in l a
theorem vS_len (l : List UInt8) (a : Nat) (ok : Bool) : (vS l a ok).size ≤ 24 := by
  unfold vS
  cases oS l a ok with
  | false => exact Nat.zero_le _
  | true => exact txtV_len l a
end Gen
/-- The reference's reader's box. -/
def RfBox (W : World) (rb : Nat) (v : Value) (a : Nat) (ok : Bool) : Prop := W.heap[rb]? = some (.cells #[v, .int .i64 (a : Int), .bool (!ok)] 76 (0, 0))
theorem RfBox.setOk {W : World} {rb : Nat} {v : Value} {a : Nat} {ok : Bool} (h : RfBox W rb v a ok) : RfBox (W.setCell ⟨rb, 2, none⟩ (.bool true)) rb v a false := by
  have := heap_setCell_same W rb 2 _ _ (.bool true) h
  exact this
theorem RfBox.setAt {W : World} {rb : Nat} {v : Value} {a : Nat} {ok : Bool} (h : RfBox W rb v a ok) (m : Nat) : RfBox (W.setCell ⟨rb, 1, none⟩ (.int .i64 (m : Int))) rb v m ok := by
  have := heap_setCell_same W rb 1 _ _ (.int .i64 (m : Int)) h
  exact this
def RfPost (u : Value) (rb : Nat) (v : Value) (a : Nat) (ok : Bool) (w : World) (e : Ending) (w' : World) : Prop := e = .returned u ∧ RfBox w' rb v a ok ∧ w.grownBy w' (some rb)
set_option maxHeartbeats 1000000 in
theorem rfInt_any (l : List UInt8) (rb : Nat) (v : Value) (a : Nat) (ok : Bool) (w : World) (h : RfBox w rb v a ok) (hv : Reads w v (nums l)) (hl : l.length ≤ 140737488355300) :
    Calls Tryz.prog 31 #[.pointer (some ⟨rb, 0, none⟩)] w (RfPost (.int .i64 (Gen.vI l a ok)) rb v (Gen.nI l a ok) (Gen.oI l a ok) w) := by
  have x2 := bcells h 2 _ rfl
  unfold RfPost Gen.vI Gen.nI Gen.oI
  cases ok with
  | false =>
    have H := hid' h
    clear h hv hl
    go_enter Tryz.func31, Tryz.ntmps31
    go_wp2_with fail
    go_ret
    exact ⟨rfl, H.out, grown_refl _ _⟩
  | true =>
    have HT := hid' (fun (W : World) (hb : Below w.heap.size w W) => (show Calls Tryz.prog 60 #[v, .int .i64 (a : Int)] W (Gives (.tuple #[.int .i64 (numV l a), .int .i64 (numN l a : Int), .bool (Go.Proofs.YtiejoapnljkjdaaGreatDoor.numOk l a)]) W) from by rw [← takenI_is]; exact refTakeInt_any v l a W (hv.below hb) hl))
    have x0 := bcells h 0 _ rfl
    have x1 := bcells h 1 _ rfl
    have HB := hid' h
    obtain ⟨p, n, c, rfl⟩ : ∃ p n c, v = .slice p n c := by obtain ⟨p, c, e⟩ := hv.len; exact ⟨_, _, _, e⟩
    clear h hv hl
    generalize numV l a = xv at *
    generalize numN l a = xn at *
    generalize Go.Proofs.YtiejoapnljkjdaaGreatDoor.numOk l a = xo at *
    go_enter Tryz.func31, Tryz.ntmps31
    go_upto_region 3 with (fail)
    go_cut [3, 4, 5] (fun v3 v4 v5 wx => v3 = .int .i64 xv ∧ v4 = .int .i64 (xn : Int) ∧ v5 = .bool xo ∧ Hid (Below w.heap.size w wx))
    case first =>
      go_region_with (first | (go_at_call 60; refine (HT.out _ (by first | exact (Below.refl _ _).drew | exact Below.refl _ _)).mono ?_; rintro e w1 ⟨rfl, b1⟩))
      all_goals go_wp2_with fail
      all_goals go_meet
      all_goals exact ⟨rfl, rfl, rfl, by first | exact (below_drewN (n := 1) b1) | exact b1 | exact Below.more ((Below.refl _ _).drew) b1⟩
    case rest =>
      obtain ⟨rfl, rfl, rfl, hb⟩ := hcut
      have hB : RfBox wc rb (.slice p n c) a true := box_below hb.out HB.out
      have HB3 := hid' hB
      have y1 := bcells hB 1 _ rfl
      have y2 := bcells hB 2 _ rfl
      have f1 := frozen_of (o := 1) hB
      have f2 := frozen_of (o := 2) hB
      clear hB x0 x1 x2 HT
      cases xo with
      | false =>
        go_wp2_with fail
        go_ret
        exact ⟨rfl, HB3.out.setOk, grown_trans (grown_of_below hb.out _) (grown_set _ _ _ _)⟩
      | true =>
        go_wp2_with fail
        go_ret
        exact ⟨rfl, HB3.out.setAt xn, grown_trans (grown_of_below hb.out _) (grown_set _ _ _ _)⟩
set_option maxHeartbeats 1000000 in
theorem rfText_any (l : List UInt8) (rb : Nat) (v : Value) (a : Nat) (ok : Bool) (w : World) (h : RfBox w rb v a ok) (hv : Reads w v (nums l)) (hl : l.length ≤ 140737488355300) :
    Calls Tryz.prog 33 #[.pointer (some ⟨rb, 0, none⟩)] w (RfPost (.string (Gen.vS l a ok)) rb v (Gen.nS l a ok) (Gen.oS l a ok) w) := by
  have x2 := bcells h 2 _ rfl
  unfold RfPost Gen.vS Gen.nS Gen.oS
  cases ok with
  | false =>
    have H := hid' h
    clear h hv hl
    go_enter Tryz.func33, Tryz.ntmps33
    go_wp2_with fail
    go_ret
    exact ⟨rfl, H.out, grown_refl _ _⟩
  | true =>
    have HT := hid' (fun (W : World) (hb : Below w.heap.size w W) => (show Calls Tryz.prog 61 #[v, .int .i64 (a : Int), .int .i64 24] W (Gives (.tuple #[.string (txtV l a), .int .i64 (txtN l a : Int), .bool (txtOk l a)]) W) from by rw [← takenS_is]; exact refTakeText_any v l a 24 W (hv.below hb) hl (by omega)))
    have x0 := bcells h 0 _ rfl
    have x1 := bcells h 1 _ rfl
    have HB := hid' h
    obtain ⟨p, n, c, rfl⟩ : ∃ p n c, v = .slice p n c := by obtain ⟨p, c, e⟩ := hv.len; exact ⟨_, _, _, e⟩
    clear h hv hl
    generalize txtV l a = xv at *
    generalize txtN l a = xn at *
    generalize txtOk l a = xo at *
    go_enter Tryz.func33, Tryz.ntmps33
    go_upto_region 3 with (fail)
    go_cut [3, 4, 5] (fun v3 v4 v5 wx => v3 = .string xv ∧ v4 = .int .i64 (xn : Int) ∧ v5 = .bool xo ∧ Hid (Below w.heap.size w wx))
    case first =>
      go_region_with (first | (go_at_call 61; refine (HT.out _ (by first | exact (Below.refl _ _).drew | exact Below.refl _ _)).mono ?_; rintro e w1 ⟨rfl, b1⟩))
      all_goals go_wp2_with fail
      all_goals go_meet
      all_goals exact ⟨rfl, rfl, rfl, by first | exact (below_drewN (n := 1) b1) | exact b1 | exact Below.more ((Below.refl _ _).drew) b1⟩
    case rest =>
      obtain ⟨rfl, rfl, rfl, hb⟩ := hcut
      have hB : RfBox wc rb (.slice p n c) a true := box_below hb.out HB.out
      have HB3 := hid' hB
      have y1 := bcells hB 1 _ rfl
      have y2 := bcells hB 2 _ rfl
      have f1 := frozen_of (o := 1) hB
      have f2 := frozen_of (o := 2) hB
      clear hB x0 x1 x2 HT
      cases xo with
      | false =>
        go_wp2_with fail
        go_ret
        exact ⟨rfl, HB3.out.setOk, grown_trans (grown_of_below hb.out _) (grown_set _ _ _ _)⟩
      | true =>
        go_wp2_with fail
        go_ret
        exact ⟨rfl, HB3.out.setAt xn, grown_trans (grown_of_below hb.out _) (grown_set _ _ _ _)⟩
set_option maxHeartbeats 1000000 in
theorem rfCount_any (l : List UInt8) (most : Nat) (rb : Nat) (v : Value) (a : Nat) (ok : Bool) (w : World) (h : RfBox w rb v a ok) (hv : Reads w v (nums l)) (hl : l.length ≤ 140737488355300) :
    Calls Tryz.prog 32 #[.pointer (some ⟨rb, 0, none⟩), .int .i64 (most : Int)] w (RfPost (.int .i64 (Gen.vC l a most ok : Int)) rb v (Gen.nC l a most ok) (Gen.oC l a most ok) w) := by
  have HI := hid' (rfInt_any l rb v a ok w h hv hl)
  have x1 := bcells h 1 _ rfl
  clear h hv hl
  unfold Gen.vC Gen.nC Gen.oC
  unfold Gen.vI Gen.nI at HI
  generalize Gen.oI l a ok = o at *
  generalize numN l a = nn at *
  have HNV := hid' (numV_in l a)
  generalize numV l a = nv at *
  cases o with
  | false =>
    go_enter Tryz.func32, Tryz.ntmps32
    go_wp2_with fail
    refine HI.out.mono ?_
    rintro e w2 ⟨rfl, h2, g2⟩
    have x2 := bcells h2 2 _ rfl
    have H2 := hid' (And.intro h2 g2)
    clear h2 g2 x1
    go_wp2_with fail
    go_ret
    exact ⟨rfl, H2.out.1, H2.out.2⟩
  | true =>
    by_cases h0 : nv < 0
    · have g0 : decide (nv < 0) = true := decide_eq_true h0
      have e : (true && (decide (0 ≤ nv) && decide (nv ≤ (most : Int)))) = false := by simp; omega
      rw [e]
      clear e h0
      go_enter Tryz.func32, Tryz.ntmps32
      go_wp2_with fail
      refine HI.out.mono ?_
      rintro e w2 ⟨rfl, h2, g2⟩
      have x2 := bcells h2 2 _ rfl
      have f2 := frozen_of (o := 2) h2
      have z1 := bcells h2 1 _ rfl
      have f1 := frozen_of (o := 1) h2
      have h3 := RfBox.setOk h2
      have y1 := bcells h3 1 _ rfl
      have H2 := hid' (And.intro (h3.setAt a) (grown_trans g2 (grown_trans (grown_set _ rb 2 (.bool true)) (grown_set _ rb 1 (.int .i64 (a : Int))))))
      clear h2 g2 x1 h3
      go_wp2_with fail
      go_ret
      exact ⟨rfl, H2.out.1, H2.out.2⟩
    · have g0 : decide (nv < 0) = false := decide_eq_false h0
      by_cases h1 : (most : Int) < nv
      · have g1 : decide ((most : Int) < nv) = true := decide_eq_true h1
        have e : (true && (decide (0 ≤ nv) && decide (nv ≤ (most : Int)))) = false := by simp; omega
        rw [e]
        clear e h0 h1
        go_enter Tryz.func32, Tryz.ntmps32
        go_wp2_with fail
        refine HI.out.mono ?_
        rintro e w2 ⟨rfl, h2, g2⟩
        have x2 := bcells h2 2 _ rfl
        have f2 := frozen_of (o := 2) h2
        have z1 := bcells h2 1 _ rfl
        have f1 := frozen_of (o := 1) h2
        have h3 := RfBox.setOk h2
        have y1 := bcells h3 1 _ rfl
        have H2 := hid' (And.intro (h3.setAt a) (grown_trans g2 (grown_trans (grown_set _ rb 2 (.bool true)) (grown_set _ rb 1 (.int .i64 (a : Int))))))
        clear h2 g2 x1 h3
        go_wp2_with fail
        go_ret
        exact ⟨rfl, H2.out.1, H2.out.2⟩
      · have g1 : decide ((most : Int) < nv) = false := decide_eq_false h1
        have e : (true && (decide (0 ≤ nv) && decide (nv ≤ (most : Int)))) = true := by simp; omega
        rw [e]
        have et : ((nv.toNat : Nat) : Int) = nv := by omega
        have ET := hid' et
        have wnv : IntKind.i64.wrap nv = nv := IntWalk.i64_in _ HNV.out
        clear e h0 h1 et
        go_enter Tryz.func32, Tryz.ntmps32
        go_wp2_with fail
        refine HI.out.mono ?_
        rintro e w2 ⟨rfl, h2, g2⟩
        have x2 := bcells h2 2 _ rfl
        have H2 := hid' (And.intro h2 g2)
        clear h2 g2 x1
        go_wp2_with fail
        go_ret
        exact ⟨by rw [cond_true, ET.out]; rfl, H2.out.1, H2.out.2⟩
end Go.Proofs.YtiejoapnljkjdaaGreatDoor
