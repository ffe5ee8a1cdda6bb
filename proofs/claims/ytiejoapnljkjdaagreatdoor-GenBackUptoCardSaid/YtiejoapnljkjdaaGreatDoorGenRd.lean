/- Proved: the methods of gen's reader, as contracts: int, text, count; and what reading means in plain terms. -/
import Derived.Test.YtiejoapnljkjdaaGreatDoorGenRefEnc
namespace Go.Proofs.YtiejoapnljkjdaaGreatDoor
open Go.RowKit
set_option linter.unusedVariables false
set_option linter.unusedSimpArgs false
set_option maxRecDepth 100000
namespace Gen
open Wire
def oI (l : List UInt8) (a : Nat) (ok : Bool) : Bool := ok && Go.Proofs.YtiejoapnljkjdaaGreatDoor.numOk l a
def nI (l : List UInt8) (a : Nat) (ok : Bool) : Nat := bif oI l a ok then numN l a else a
def oS (l : List UInt8) (a : Nat) (ok : Bool) : Bool := ok && txtOk l a
def nS (l : List UInt8) (a : Nat) (ok : Bool) : Nat := bif oS l a ok then txtN l a else a
def oC (l : List UInt8) (a most : Nat) (ok : Bool) : Bool := oI l a ok && (decide (0 ≤ numV l a) && decide (numV l a ≤ (most : Int)))
def nC (l : List UInt8) (a most : Nat) (ok : Bool) : Nat := bif oC l a most ok then numN l a else a
def vC (l : List UInt8) (a most : Nat) (ok : Bool) : Nat := bif oC l a most ok then (numV l a).toNat else 0
/-- What reading has come to: the rest that is to be read, or the place of the fault. -/
def Inv (l : List UInt8) (F : Rd Cd) (a : Nat) (ok : Bool) : Prop := rdC l 0 = bif ok then F l a else .error a
theorem Inv.int {l : List UInt8} {f : Int → Rd Cd} {a : Nat} {ok : Bool} (h : Inv l (bnd rdI f) a ok) : Inv l (f (numV l a)) (nI l a ok) (oI l a ok) := by
  unfold Inv nI oI at *
  cases ok with
  | false => exact h
  | true =>
    rw [h]
    simp only [Bool.true_and, bnd, rdI, Go.Proofs.YtiejoapnljkjdaaGreatDoor.numOk, numV, numN, cond_true]
    cases Wire.takeInt l a with
    | none => rfl
    | some x => rfl
theorem Inv.text {l : List UInt8} {f : ByteArray → Rd Cd} {a : Nat} {ok : Bool} (h : Inv l (bnd rdS f) a ok) : Inv l (f (txtV l a)) (nS l a ok) (oS l a ok) := by
  unfold Inv nS oS at *
  cases ok with
  | false => exact h
  | true =>
    rw [h]
    simp only [Bool.true_and, bnd, rdS, txtOk, txtV, txtN, cond_true]
    cases Wire.takeText l a 24 with
    | none => rfl
    | some x => rfl
theorem Inv.count {l : List UInt8} {most : Nat} {f : Nat → Rd Cd} {a : Nat} {ok : Bool} (h : Inv l (bnd (rdN most) f) a ok) : Inv l (f (vC l a most ok)) (nC l a most ok) (oC l a most ok) := by
  unfold Inv vC nC oC oI at *
  cases ok with
  | false => exact h
  | true =>
    rw [h]
    rcases hx : Wire.takeInt l a with _ | ⟨n, m⟩
    · simp only [Bool.true_and, bnd, rdN, Go.Proofs.YtiejoapnljkjdaaGreatDoor.numOk, numV, numN, cond_true, hx]
      rfl
    · simp only [Bool.true_and, bnd, rdN, Go.Proofs.YtiejoapnljkjdaaGreatDoor.numOk, numV, numN, cond_true, hx, Option.getD_some, Option.isSome_some]
      by_cases h1 : n < 0 ∨ (most : Int) < n
      · rw [if_pos h1]
        have e : (decide (0 ≤ n) && decide (n ≤ (most : Int))) = false := by rcases h1 with h | h <;> simp <;> omega
        rw [e]; rfl
      · rw [if_neg h1]
        have e : (decide (0 ≤ n) && decide (n ≤ (most : Int))) = true := by simp; omega
        rw [e]; rfl
theorem Inv.bad {l : List UInt8} {F G : Rd Cd} {a : Nat} (h : Inv l F a false) : Inv l G a false := h
theorem bnd_many {α : Type} (p : Rd α) (n : Nat) (G : List α → Rd Cd) (acc : List α) (l : List UInt8) (a : Nat) :
    bnd (rdMany p (n + 1)) (fun t => G (acc ++ t)) l a = bnd p (fun x => bnd (rdMany p n) fun t => G ((acc ++ [x]) ++ t)) l a := by
  simp only [bnd, rdMany, rt]
  cases p l a with
  | error e => rfl
  | ok x =>
    obtain ⟨y, m⟩ := x
    simp only []
    cases rdMany p n l m with
    | error e => rfl
    | ok z => simp
end Gen
/-- A reader's box. -/
def RdBox (W : World) (rb : Nat) (v : Value) (a : Nat) (ok : Bool) : Prop := W.heap[rb]? = some (.cells #[v, .int .i64 (a : Int), .bool ok] 70 (0, 0))
theorem RdBox.setOk {W : World} {rb : Nat} {v : Value} {a : Nat} {ok : Bool} (h : RdBox W rb v a ok) (ok2 : Bool) : RdBox (W.setCell ⟨rb, 2, none⟩ (.bool ok2)) rb v a ok2 := by
  have := heap_setCell_same W rb 2 _ _ (.bool ok2) h
  exact this
theorem RdBox.setAt {W : World} {rb : Nat} {v : Value} {a : Nat} {ok : Bool} (h : RdBox W rb v a ok) (m : Nat) : RdBox (W.setCell ⟨rb, 1, none⟩ (.int .i64 (m : Int))) rb v m ok := by
  have := heap_setCell_same W rb 1 _ _ (.int .i64 (m : Int)) h
  exact this
theorem grown_set (W : World) (rb o : Nat) (u : Value) : W.grownBy (W.setCell ⟨rb, o, none⟩ u) (some rb) :=
  ⟨rfl, rfl, rfl, (KeepsWalks.setCell W _ u).size, fun k _ hk => Below.heap_setCell _ _ _ k (fun e => hk (by rw [e]))⟩
def StepPost (rb : Nat) (v : Value) (a : Nat) (ok : Bool) (w : World) (e : Ending) (w' : World) : Prop := (∃ r, e = .returned r) ∧ RdBox w' rb v a ok ∧ w.grownBy w' (some rb)
theorem frozen_of {W : World} {b o : Nat} {xs : Array Value} {t : TypeId} (h : W.heap[b]? = some (.cells xs t (0, 0))) : W.frozen? ⟨b, o, none⟩ = false := by simp [World.frozen?, h]
theorem rdStep_any (rb : Nat) (v : Value) (a m : Nat) (ok ok2 : Bool) (w : World) (h : RdBox w rb v a ok) :
    Calls Tryz.prog 58 #[.pointer (some ⟨rb, 0, none⟩), .int .i64 (m : Int), .bool ok2] w (StepPost rb v (bif ok && ok2 then m else a) (ok && ok2) w) := by
  have x2 := bcells h 2 _ rfl
  have f2 := frozen_of (o := 2) h
  have h1 := h.setOk (ok && ok2)
  have f1 := frozen_of (o := 1) h
  have x1 := bcells h 1 _ rfl
  have y1 := bcells h1 1 _ rfl
  have y2 := bcells h1 2 _ rfl
  have H1 := hid' h1
  have HA := hid' (h1.setAt m)
  clear h h1
  cases ok with
  | false =>
    go_enter Tryz.func58, Tryz.ntmps58
    go_wp2_with fail
    refine bodyPost_end (results_none rfl _ _ _) rfl ?_
    exact ⟨⟨_, rfl⟩, H1.out, grown_set _ _ _ _⟩
  | true =>
    cases ok2 with
    | false =>
      go_enter Tryz.func58, Tryz.ntmps58
      go_wp2_with fail
      refine bodyPost_end (results_none rfl _ _ _) rfl ?_
      exact ⟨⟨_, rfl⟩, H1.out, grown_set _ _ _ _⟩
    | true =>
      go_enter Tryz.func58, Tryz.ntmps58
      go_wp2_with fail
      refine bodyPost_end (results_none rfl _ _ _) rfl ?_
      exact ⟨⟨_, rfl⟩, HA.out, grown_trans (grown_set _ _ _ _) (grown_set _ _ _ _)⟩
def RdPost (u : Value) (rb : Nat) (v : Value) (a : Nat) (ok : Bool) (w : World) (e : Ending) (w' : World) : Prop := e = .returned u ∧ RdBox w' rb v a ok ∧ w.grownBy w' (some rb)
theorem rdInt_any (l : List UInt8) (rb : Nat) (v : Value) (a : Nat) (ok : Bool) (w : World) (h : RdBox w rb v a ok) (hv : Reads w v (nums l)) (hl : l.length ≤ 140737488355300) :
    Calls Tryz.prog 28 #[.pointer (some ⟨rb, 0, none⟩)] w (RdPost (.int .i64 (numV l a)) rb v (Gen.nI l a ok) (Gen.oI l a ok) w) := by
  have HT := hid' (fun (k : Nat) => (show Calls Tryz.prog 57 #[v, .int .i64 (a : Int)] (w.drewN k) (fun e w' => e = .returned (.tuple #[.int .i64 (numV l a), .int .i64 (numN l a : Int), .bool (Go.Proofs.YtiejoapnljkjdaaGreatDoor.numOk l a)]) ∧ ∃ m, w' = (w.drewN k).drewN m) from by rw [← takenI_is]; exact (takeInt_any v l a (w.drewN k) (hv.below (Below.drewn (Below.refl _ _) k)) hl).mono (fun e w' h => ⟨h.1, 0, h.2⟩)))
  have x0 := bcells h 0 _ rfl
  have x1 := bcells h 1 _ rfl
  have HS := hid' (fun (k : Nat) => rdStep_any rb v a (numN l a) ok (Go.Proofs.YtiejoapnljkjdaaGreatDoor.numOk l a) (w.drewN k) h)
  obtain ⟨p, n, c, rfl⟩ : ∃ p n c, v = .slice p n c := by obtain ⟨p, c, e⟩ := hv.len; exact ⟨_, _, _, e⟩
  clear h hv hl
  unfold RdPost Gen.nI Gen.oI
  go_enter Tryz.func28, Tryz.ntmps28
  go_upto_region 1 with (fail)
  go_quiet (first | (go_at_call 57; exact Calls.quiet_of (HT.out _)))
  obtain ⟨m0, hm0⟩ : ∃ m, m = nq := ⟨_, rfl⟩
  clear x0 x1
  go_wp2_with fail
  refine (HS.out nq).mono ?_
  rintro e w2 ⟨⟨r, rfl⟩, h2, g2⟩
  have H2 := hid' (And.intro h2 g2)
  clear h2 g2
  go_wp2_with fail
  go_ret
  exact ⟨rfl, H2.out.1, grown_trans (grown_of_below (Below.drewn (Below.refl _ _) _) _) H2.out.2⟩
theorem rdText_any (l : List UInt8) (rb : Nat) (v : Value) (a : Nat) (ok : Bool) (w : World) (h : RdBox w rb v a ok) (hv : Reads w v (nums l)) (hl : l.length ≤ 140737488355300) :
    Calls Tryz.prog 30 #[.pointer (some ⟨rb, 0, none⟩)] w (RdPost (.string (txtV l a)) rb v (Gen.nS l a ok) (Gen.oS l a ok) w) := by
  have HT := hid' (fun (k : Nat) => (show Calls Tryz.prog 59 #[v, .int .i64 (a : Int), .int .i64 24] (w.drewN k) (fun e w' => e = .returned (.tuple #[.string (txtV l a), .int .i64 (txtN l a : Int), .bool (txtOk l a)]) ∧ ∃ m, w' = (w.drewN k).drewN m) from by rw [← takenS_is]; exact (takeText_any v l a 24 (w.drewN k) (hv.below (Below.drewn (Below.refl _ _) k)) hl (by omega)).mono (fun e w' h => ⟨h.1, 0, h.2⟩)))
  have x0 := bcells h 0 _ rfl
  have x1 := bcells h 1 _ rfl
  have HS := hid' (fun (k : Nat) => rdStep_any rb v a (txtN l a) ok (txtOk l a) (w.drewN k) h)
  obtain ⟨p, n, c, rfl⟩ : ∃ p n c, v = .slice p n c := by obtain ⟨p, c, e⟩ := hv.len; exact ⟨_, _, _, e⟩
  clear h hv hl
  unfold RdPost Gen.nS Gen.oS
  go_enter Tryz.func30, Tryz.ntmps30
  go_upto_region 1 with (fail)
  go_quiet (first | (go_at_call 59; exact Calls.quiet_of (HT.out _)))
  obtain ⟨m0, hm0⟩ : ∃ m, m = nq := ⟨_, rfl⟩
  clear x0 x1
  go_wp2_with fail
  refine (HS.out nq).mono ?_
  rintro e w2 ⟨⟨r, rfl⟩, h2, g2⟩
  have H2 := hid' (And.intro h2 g2)
  clear h2 g2
  go_wp2_with fail
  go_ret
  exact ⟨rfl, H2.out.1, grown_trans (grown_of_below (Below.drewn (Below.refl _ _) _) _) H2.out.2⟩
theorem rdCount_any (l : List UInt8) (most : Nat) (rb : Nat) (v : Value) (a : Nat) (ok : Bool) (w : World) (h : RdBox w rb v a ok) (hv : Reads w v (nums l)) (hl : l.length ≤ 140737488355300) :
    Calls Tryz.prog 29 #[.pointer (some ⟨rb, 0, none⟩), .int .i64 (most : Int)] w (RdPost (.int .i64 (Gen.vC l a most ok : Int)) rb v (Gen.nC l a most ok) (Gen.oC l a most ok) w) := by
  have HI := hid' (rdInt_any l rb v a ok w h hv hl)
  have x1 := bcells h 1 _ rfl
  clear h hv hl
  unfold Gen.vC Gen.nC Gen.oC
  unfold Gen.nI at HI
  generalize Gen.oI l a ok = o at *
  generalize numN l a = nn at *
  generalize numV l a = nv at *
  cases o with
  | false =>
    go_enter Tryz.func29, Tryz.ntmps29
    go_wp2_with fail
    refine HI.out.mono ?_
    rintro e w2 ⟨rfl, h2, g2⟩
    have x2 := bcells h2 2 _ rfl
    have H2 := hid' (And.intro h2 g2)
    clear h2 g2 x1
    go_wp2_with fail
    go_ret
    exact ⟨rfl, H2.out.1, H2.out.2⟩
  | true =>
    by_cases h0 : nv < 0
    · have g0 : decide (nv < 0) = true := decide_eq_true h0
      have e : (true && (decide (0 ≤ nv) && decide (nv ≤ (most : Int)))) = false := by simp; omega
      rw [e]
      clear e h0
      go_enter Tryz.func29, Tryz.ntmps29
      go_wp2_with fail
      refine HI.out.mono ?_
      rintro e w2 ⟨rfl, h2, g2⟩
      have x2 := bcells h2 2 _ rfl
      have f1 := frozen_of (o := 1) h2
      have y1 := bcells h2 1 _ rfl
      have h3 := RdBox.setAt h2 a
      have y2 := bcells h3 2 _ rfl
      have f2 := frozen_of (o := 2) h2
      have H2 := hid' (And.intro (h3.setOk false) (grown_trans g2 (grown_trans (grown_set _ rb 1 (.int .i64 (a : Int))) (grown_set _ rb 2 (.bool false)))))
      clear h2 g2 x1 h3
      go_wp2_with fail
      go_ret
      exact ⟨rfl, H2.out.1, H2.out.2⟩
    · have g0 : decide (nv < 0) = false := decide_eq_false h0
      by_cases h1 : (most : Int) < nv
      · have g1 : decide ((most : Int) < nv) = true := decide_eq_true h1
        have e : (true && (decide (0 ≤ nv) && decide (nv ≤ (most : Int)))) = false := by simp; omega
        rw [e]
        clear e h0 h1
        go_enter Tryz.func29, Tryz.ntmps29
        go_wp2_with fail
        refine HI.out.mono ?_
        rintro e w2 ⟨rfl, h2, g2⟩
        have x2 := bcells h2 2 _ rfl
        have f1 := frozen_of (o := 1) h2
        have y1 := bcells h2 1 _ rfl
        have h3 := RdBox.setAt h2 a
        have y2 := bcells h3 2 _ rfl
        have f2 := frozen_of (o := 2) h2
        have H2 := hid' (And.intro (h3.setOk false) (grown_trans g2 (grown_trans (grown_set _ rb 1 (.int .i64 (a : Int))) (grown_set _ rb 2 (.bool false)))))
        clear h2 g2 x1 h3
        go_wp2_with fail
        go_ret
        exact ⟨rfl, H2.out.1, H2.out.2⟩
      · have g1 : decide ((most : Int) < nv) = false := decide_eq_false h1
        have e : (true && (decide (0 ≤ nv) && decide (nv ≤ (most : Int)))) = true := by simp; omega
        rw [e]
        have et : ((nv.toNat : Nat) : Int) = nv := by omega
        have ET := hid' et
        clear e h0 h1 et
        go_enter Tryz.func29, Tryz.ntmps29
        go_wp2_with fail
        refine HI.out.mono ?_
        rintro e w2 ⟨rfl, h2, g2⟩
        have x2 := bcells h2 2 _ rfl
        have H2 := hid' (And.intro h2 g2)
        clear h2 g2 x1
        go_wp2_with fail
        go_ret
        exact ⟨by rw [cond_true, ET.out]; rfl, H2.out.1, H2.out.2⟩
end Go.Proofs.YtiejoapnljkjdaaGreatDoor
