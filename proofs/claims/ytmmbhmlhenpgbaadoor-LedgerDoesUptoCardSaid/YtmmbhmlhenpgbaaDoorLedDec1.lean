/- Proved: the two closures of ledger's Decode as contracts: a number is taken, a text is taken, and what is kept of them. -/
import Derived.Test.YtmmbhmlhenpgbaaDoorWireTakeWalk
import Derived.Test.YtmmbhmlhenpgbaaDoorLedEnc
namespace Go.Proofs.YtmmbhmlhenpgbaaDoor
open Go.RowKit
open Led
set_option linter.unusedVariables false
set_option linter.unusedSimpArgs false
set_option maxRecDepth 100000
def numV (l : List UInt8) (a : Nat) : Int := ((Wire.takeInt l a).getD (0, 0)).1
def numN (l : List UInt8) (a : Nat) : Nat := ((Wire.takeInt l a).getD (0, 0)).2
def numOk (l : List UInt8) (a : Nat) : Bool := (Wire.takeInt l a).isSome
def txtV (l : List UInt8) (a : Nat) : ByteArray := ⟨((Wire.takeText l a 24).getD ([], 0)).1.toArray⟩
def txtN (l : List UInt8) (a : Nat) : Nat := ((Wire.takeText l a 24).getD ([], 0)).2
def txtOk (l : List UInt8) (a : Nat) : Bool := (Wire.takeText l a 24).isSome
theorem takeS_at {l : List UInt8} {a most : Nat} : takeS l (a : Int) most = Wire.takeText l a most := by
  unfold takeS
  rw [if_neg (by omega), Int.toNat_natCast]
theorem takenI_is (l : List UInt8) (a : Nat) : takenI (takeI l a) = .tuple #[.int .i64 (numV l a), .int .i64 (numN l a : Int), .bool (numOk l a)] := by
  rw [takeI_at]
  unfold numV numN numOk takenI
  cases Wire.takeInt l a <;> rfl
theorem takenS_is (l : List UInt8) (a : Nat) : takenS (takeS l a 24) = .tuple #[.string (txtV l a), .int .i64 (txtN l a : Int), .bool (txtOk l a)] := by
  rw [takeS_at]
  unfold txtV txtN txtOk takenS
  cases Wire.takeText l a 24 <;> rfl
theorem numV_in (l : List UInt8) (a : Nat) : -9223372036854775808 ≤ numV l a ∧ numV l a ≤ 9223372036854775807 := by
  unfold numV
  cases h : Wire.takeInt l a with
  | none => exact ⟨by decide, by decide⟩
  | some x =>
    obtain ⟨n, e⟩ := x
    obtain ⟨_, _, _, h1, h2, _⟩ := Wire.takeInt_back h
    exact ⟨h1, h2⟩
theorem txtV_len (l : List UInt8) (a : Nat) : (txtV l a).size ≤ 24 := by
  unfold txtV
  cases h : Wire.takeText l a 24 with
  | none => exact Nat.zero_le _
  | some x =>
    obtain ⟨s, e⟩ := x
    obtain ⟨_, _, _, h1, _⟩ := Wire.takeText_back h
    rw [mk_size]; exact h1
namespace Led
/-- The leg that stands at a place, the place behind it, whether there is one. -/
def legV (l : List UInt8) (a : Nat) : Leg := ⟨txtV l a, txtV l (txtN l a), numV l (txtN l (txtN l a))⟩
def legN (l : List UInt8) (a : Nat) : Nat := numN l (txtN l (txtN l a))
def legG (l : List UInt8) (a : Nat) : Bool := txtOk l a && txtOk l (txtN l a) && numOk l (txtN l (txtN l a))
theorem takeLeg_is (l : List UInt8) (a : Nat) : takeLeg l a = if legG l a = true then some (legV l a, legN l a) else none := by
  unfold takeLeg legG legV legN
  cases h1 : Wire.takeText l a 24 with
  | none => simp [txtOk, h1]
  | some x =>
    obtain ⟨s, e⟩ := x
    have e1 : txtN l a = e := by unfold txtN; rw [h1]; rfl
    have e2 : txtV l a = ⟨s.toArray⟩ := by unfold txtV; rw [h1]; rfl
    have e3 : txtOk l a = true := by unfold txtOk; rw [h1]; rfl
    rw [e1, e2, e3]
    simp only []
    cases h2 : Wire.takeText l e 24 with
    | none => simp [txtOk, h2]
    | some x =>
      obtain ⟨t, f⟩ := x
      have f1 : txtN l e = f := by unfold txtN; rw [h2]; rfl
      have f2 : txtV l e = ⟨t.toArray⟩ := by unfold txtV; rw [h2]; rfl
      have f3 : txtOk l e = true := by unfold txtOk; rw [h2]; rfl
      rw [f1, f2, f3]
      simp only []
      cases h3 : Wire.takeInt l f with
      | none => simp [numOk, h3]
      | some x =>
        obtain ⟨n, g⟩ := x
        simp [numOk, numV, numN, h3]
theorem takeLegs_snoc (l : List UInt8) (i : Nat) : ∀ c, takeLegs (i + 1) l c = (takeLegs i l c).bind fun x => (takeLeg l x.2).map fun y => (x.1 ++ [y.1], y.2) := by
  induction i with
  | zero =>
    intro c
    rw [takeLegs, takeLegs]
    cases h : takeLeg l c with
    | none => simp [h]
    | some x => simp [h, takeLegs]
  | succ i ih =>
    intro c
    rw [takeLegs]
    conv => rhs; rw [takeLegs]
    cases h : takeLeg l c with
    | none => rfl
    | some x =>
      obtain ⟨x, z⟩ := x
      simp only []
      rw [ih z]
      cases h2 : takeLegs i l z with
      | none => rfl
      | some y =>
        obtain ⟨r, e⟩ := y
        simp only [Option.bind_some]
        cases h3 : takeLeg l e with
        | none => rfl
        | some u => rfl
theorem takeLegs_dies (l : List UInt8) (i j c : Nat) (h : takeLegs i l c = none) : takeLegs (i + j) l c = none := by
  induction j with
  | zero => exact h
  | succ j ih => rw [← Nat.add_assoc, takeLegs_snoc, ih]; rfl
/-- What stands behind so many rounds: the legs, the place, whether all went well. -/
structure DecAt (l : List UInt8) (c i : Nat) (L : List Leg) (a : Nat) (g : Bool) : Prop where
  len : L.length = i
  yes : g = true → takeLegs i l c = some (L, a)
  no : g = false → takeLegs i l c = none
theorem DecAt.start (l : List UInt8) (c : Nat) : DecAt l c 0 [] c true := ⟨rfl, fun _ => rfl, fun h => by cases h⟩
theorem DecAt.step {l : List UInt8} {c i : Nat} {L : List Leg} {a : Nat} (h : DecAt l c i L a true) : DecAt l c (i + 1) (L ++ [legV l a]) (legN l a) (((true && txtOk l a) && txtOk l (txtN l a)) && numOk l (txtN l (txtN l a))) := by
  have h1 := h.yes rfl
  refine ⟨by simp [h.len], fun hg => ?_, fun hg => ?_⟩
  · rw [takeLegs_snoc, h1, Option.bind_some, takeLeg_is, if_pos (by unfold legG; simpa using hg)]; rfl
  · rw [takeLegs_snoc, h1, Option.bind_some, takeLeg_is, if_neg (by unfold legG; simpa using hg)]; rfl
theorem dec_none {l : List UInt8} (h : takeHead l = none) : dec l = none := by unfold dec; rw [h]
theorem dec_dies {l : List UInt8} {day id n : Int} {c i : Nat} (h : takeHead l = some (day, id, n, c)) (hi : (i : Int) ≤ n) (hl : takeLegs i l c = none) : dec l = none := by
  unfold dec; rw [h]; simp only []
  split
  · rfl
  · have := takeLegs_dies l i (n.toNat - i) c hl
    rw [show i + (n.toNat - i) = n.toNat by omega] at this
    rw [this]
theorem dec_ends {l : List UInt8} {day id n : Int} {c i a : Nat} {L : List Leg} (h : takeHead l = some (day, id, n, c)) (hi : (i : Int) ≤ n ∨ i = 0) (hi2 : n ≤ (i : Int) ∨ i = 65) (h65 : i ≤ 65) (hl : takeLegs i l c = some (L, a)) (hlen : L.length = i) :
    dec l = if a = l.length ∧ (n = (i : Int) ∧ right ⟨day, id, L⟩ = true) then some ⟨day, id, L⟩ else none := by
  have hr : n = 65 → i = 65 → right ⟨day, id, L⟩ = false := by
    intro h1 h2
    apply Bool.eq_false_iff.2
    intro h3
    have := head_parts (right_parts h3).1
    simp at this; omega
  unfold dec; rw [h]; simp only []
  by_cases hn : n < 0 ∨ 64 < n
  · rw [if_pos hn, if_neg]
    rintro ⟨_, h1, h2⟩
    have : n = 65 := by omega
    rw [hr this (by omega)] at h2; cases h2
  · have e : n.toNat = i := by omega
    have e2 : n = (i : Int) := by omega
    rw [if_neg hn, e, hl]
    simp only []
    by_cases hc : a = l.length ∧ right ⟨day, id, L⟩ = true
    · rw [if_pos hc, if_pos ⟨hc.1, e2, hc.2⟩]
    · rw [if_neg hc, if_neg (fun h => hc ⟨h.1, h.2.2⟩)]
/-- The head of a posting, number by number. -/
def headG (l : List UInt8) : Bool := numOk l 0 && numOk l (numN l 0) && numOk l (numN l (numN l 0))
theorem takeHead_is (l : List UInt8) : takeHead l = if headG l = true then some (numV l 0, numV l (numN l 0), numV l (numN l (numN l 0)), numN l (numN l (numN l 0))) else none := by
  unfold takeHead headG
  cases h1 : Wire.takeInt l 0 with
  | none => simp [numOk, h1]
  | some x =>
    obtain ⟨n1, e1⟩ := x
    have a1 : numN l 0 = e1 := by unfold numN; rw [h1]; rfl
    have a2 : numV l 0 = n1 := by unfold numV; rw [h1]; rfl
    have a3 : numOk l 0 = true := by unfold numOk; rw [h1]; rfl
    rw [a1, a2, a3]
    simp only []
    cases h2 : Wire.takeInt l e1 with
    | none => simp [numOk, h2]
    | some x =>
      obtain ⟨n2, e2⟩ := x
      have a1 : numN l e1 = e2 := by unfold numN; rw [h2]; rfl
      have a2 : numV l e1 = n2 := by unfold numV; rw [h2]; rfl
      have a3 : numOk l e1 = true := by unfold numOk; rw [h2]; rfl
      rw [a1, a2, a3]
      simp only []
      cases h3 : Wire.takeInt l e2 with
      | none => simp [numOk, h3]
      | some x =>
        obtain ⟨n3, e3⟩ := x
        simp [numOk, numV, numN, h3]
/-- What Decode answers: a posting, the number of the error. -/
def decOf (l : List UInt8) : Post × Int := match dec l with
  | some p => (p, 0)
  | none => (⟨0, 0, []⟩, 200)
end Led
/-- What the closures have captured: the bytes, the place, whether all went well. -/
structure CurAt (w : World) (l : List UInt8) (v0 : Value) (b0 b1 b2 : Nat) (a : Nat) (g : Bool) (W : World) : Prop where
  bel : Below w.heap.size w W
  c0 : W.cell? ⟨b0, 0, none⟩ = some v0
  c1 : W.cell? ⟨b1, 0, none⟩ = some (.int .i64 (a : Int))
  c2 : W.cell? ⟨b2, 0, none⟩ = some (.bool g)
  f1 : W.frozen? ⟨b1, 0, none⟩ = false
  f2 : W.frozen? ⟨b2, 0, none⟩ = false
  rd : Reads w v0 (nums l)
  lo1 : w.heap.size ≤ b1
  lo2 : w.heap.size ≤ b2
  n01 : b0 ≠ b1
  n02 : b0 ≠ b2
  n12 : b1 ≠ b2
/-- The world behind a closure. -/
def curNext (W : World) (b1 b2 : Nat) (a : Int) (g : Bool) : World := (W.setCell ⟨b1, 0, none⟩ (.int .i64 a)).setCell ⟨b2, 0, none⟩ (.bool g)
theorem curNext_size (W : World) (b1 b2 : Nat) (a : Int) (g : Bool) : (curNext W b1 b2 a g).heap.size = W.heap.size := by unfold curNext; simp
theorem curNext_cell (W : World) (b1 b2 : Nat) (a : Int) (g : Bool) (p : Addr) (h1 : p.block ≠ b1) (h2 : p.block ≠ b2) : (curNext W b1 b2 a g).cell? p = W.cell? p := by
  unfold curNext
  rw [World.cell?_setCell_other _ _ _ _ (by rintro rfl; exact h2 rfl), World.cell?_setCell_other _ _ _ _ (by rintro rfl; exact h1 rfl)]
theorem curNext_frozen (W : World) (b1 b2 : Nat) (a : Int) (g : Bool) (p : Addr) : (curNext W b1 b2 a g).frozen? p = W.frozen? p := by
  unfold curNext
  rw [World.frozen?_setCell, World.frozen?_setCell]
theorem curNext_below {B : Nat} {w W : World} (h : Below B w W) (b1 b2 : Nat) (a : Int) (g : Bool) (h1 : B ≤ b1) (h2 : B ≤ b2) : Below B w (curNext W b1 b2 a g) := (h.setCell (p := ⟨b1, 0, none⟩) h1 _).setCell (p := ⟨b2, 0, none⟩) h2 _
theorem CurAt.next {w : World} {l : List UInt8} {v0 : Value} {b0 b1 b2 : Nat} {a : Nat} {g : Bool} {W : World} (h : CurAt w l v0 b0 b1 b2 a g W) (a' : Nat) (g' : Bool) : CurAt w l v0 b0 b1 b2 a' g' (curNext W b1 b2 a' g') := by
  refine ⟨curNext_below h.bel _ _ _ _ h.lo1 h.lo2, ?_, ?_, ?_, ?_, ?_, h.rd, h.lo1, h.lo2, h.n01, h.n02, h.n12⟩
  · rw [curNext_cell _ _ _ _ _ _ h.n01 h.n02]; exact h.c0
  · unfold curNext
    rw [World.cell?_setCell_other _ _ _ _ (fun e => h.n12 (congrArg Addr.block e).symm), World.cell?_setCell_same' _ _ _ (by rw [h.c1]; rfl)]
  · unfold curNext
    rw [World.cell?_setCell_same' _ _ _ (by rw [World.cell?_setCell_other _ _ _ _ (fun e => h.n12 (congrArg Addr.block e)), h.c2]; rfl)]
  · rw [curNext_frozen]; exact h.f1
  · rw [curNext_frozen]; exact h.f2
theorem number_any (w : World) (l : List UInt8) (v0 : Value) (b0 b1 b2 : Nat) (a : Nat) (g : Bool) (W : World) (h : CurAt w l v0 b0 b1 b2 a g W) (hl : l.length ≤ 140737488355300) :
    Calls Tryd.prog 32 #[.pointer (some ⟨b0, 0, none⟩), .pointer (some ⟨b1, 0, none⟩), .pointer (some ⟨b2, 0, none⟩)] W
      fun e w' => e = .returned (.int .i64 (numV l a)) ∧ w' = curNext W b1 b2 (numN l a) (g && numOk l a) := by
  have HT := hid' (takeInt_any v0 l a W (h.rd.below h.bel) hl)
  rw [takenI_is] at HT
  obtain ⟨_, c0, c1, c2, f1, f2, rd, _, _, n01, n02, n12⟩ := h
  have HRD := hid' rd
  clear rd hl
  have n21 : b2 ≠ b1 := fun e => n12 e.symm
  cases g with
  | true =>
    go_enter Tryd.func32, Tryd.ntmps32
    go_wp2_with fail
    refine HT.out.mono ?_
    rintro e w1 ⟨rfl, rfl⟩
    go_wp2_with fail
    go_ret
    exact ⟨rfl, rfl⟩
  | false =>
    go_enter Tryd.func32, Tryd.ntmps32
    go_wp2_with fail
    refine HT.out.mono ?_
    rintro e w1 ⟨rfl, rfl⟩
    go_wp2_with fail
    go_ret
    exact ⟨rfl, rfl⟩
theorem text_any (w : World) (l : List UInt8) (v0 : Value) (b0 b1 b2 : Nat) (a : Nat) (g : Bool) (W : World) (h : CurAt w l v0 b0 b1 b2 a g W) (hl : l.length ≤ 140737488355300) :
    Calls Tryd.prog 34 #[.pointer (some ⟨b0, 0, none⟩), .pointer (some ⟨b1, 0, none⟩), .pointer (some ⟨b2, 0, none⟩)] W
      fun e w' => e = .returned (.string (txtV l a)) ∧ w' = curNext W b1 b2 (txtN l a) (g && txtOk l a) := by
  have HT := hid' (takeText_any v0 l a 24 W (h.rd.below h.bel) hl (by omega))
  rw [takenS_is] at HT
  obtain ⟨_, c0, c1, c2, f1, f2, rd, _, _, n01, n02, n12⟩ := h
  have HRD := hid' rd
  clear rd hl
  have n21 : b2 ≠ b1 := fun e => n12 e.symm
  cases g with
  | true =>
    go_enter Tryd.func34, Tryd.ntmps34
    go_wp2_with fail
    refine HT.out.mono ?_
    rintro e w1 ⟨rfl, rfl⟩
    go_wp2_with fail
    go_ret
    exact ⟨rfl, rfl⟩
  | false =>
    go_enter Tryd.func34, Tryd.ntmps34
    go_wp2_with fail
    refine HT.out.mono ?_
    rintro e w1 ⟨rfl, rfl⟩
    go_wp2_with fail
    go_ret
    exact ⟨rfl, rfl⟩
end Go.Proofs.YtmmbhmlhenpgbaaDoor
