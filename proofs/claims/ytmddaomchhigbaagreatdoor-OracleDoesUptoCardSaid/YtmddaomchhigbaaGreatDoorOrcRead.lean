/- Proved: oracle's read and Decode as contracts: the tip that bytes spell, or a refusal. -/
import Derived.Test.YtmddaomchhigbaaGreatDoorOrcCode
namespace Go.Proofs.YtmddaomchhigbaaGreatDoor
open Go.RowKit
open Led Orc
set_option linter.unusedVariables false
set_option linter.unusedSimpArgs false
set_option maxRecDepth 100000
/-- The places and the marks, round by round. -/
def rdA (l : List UInt8) : Nat → Nat
  | 0 => txtN l 1
  | i + 1 => numN l (rdA l i)
def rdK (l : List UInt8) : Nat → Bool
  | 0 => txtOk l 1
  | i + 1 => numOk l (rdA l i)
def rdV (l : List UInt8) (i : Nat) : Int := numV l (rdA l i)
def rdArr (l : List UInt8) : Nat → Array Value
  | 0 => #[.int .i64 0, .int .i64 0, .int .i64 0]
  | 1 => #[.int .i64 (rdV l 0), .int .i64 0, .int .i64 0]
  | 2 => #[.int .i64 (rdV l 0), .int .i64 (rdV l 1), .int .i64 0]
  | _ => #[.int .i64 (rdV l 0), .int .i64 (rdV l 1), .int .i64 (rdV l 2)]
theorem rdArr_step (l : List UInt8) (i : Nat) (h : i < 3) : (rdArr l i).setIfInBounds i (.int .i64 (rdV l i)) = rdArr l (i + 1) ∧ ∃ u, (rdArr l i)[i]? = some (.int .i64 u) := by
  rcases (by omega : i = 0 ∨ i = 1 ∨ i = 2) with rfl | rfl | rfl
  · exact ⟨rfl, 0, rfl⟩
  · exact ⟨rfl, 0, rfl⟩
  · exact ⟨rfl, 0, rfl⟩
def rdTip (l : List UInt8) : Orc.Tip := ⟨txtV l 1, rdV l 0, rdV l 1, rdV l 2, ⟨(l.drop (rdA l 3)).toArray⟩⟩
theorem spelled_is (l : List UInt8) : Orc.spelled l = if l.head? = some 84 ∧ rdK l 0 = true ∧ rdK l 1 = true ∧ rdK l 2 = true ∧ rdK l 3 = true then some (rdTip l) else none := by
  unfold Orc.spelled
  cases l with
  | nil => simp
  | cons c r =>
    simp only [List.head?_cons, Option.some.injEq]
    by_cases hc : c = 84
    · subst hc
      simp only [ne_eq, not_true_eq_false, if_false, true_and]
      generalize (84 : UInt8) :: r = l
      unfold rdTip rdV
      simp only [rdK, rdA]
      cases h1 : Wire.takeText l 1 24 with
      | none => simp [txtOk, h1]
      | some x =>
        obtain ⟨f, a⟩ := x
        have e1 : txtN l 1 = a := by unfold txtN; rw [h1]; rfl
        have e2 : txtV l 1 = ⟨f.toArray⟩ := by unfold txtV; rw [h1]; rfl
        have e3 : txtOk l 1 = true := by unfold txtOk; rw [h1]; rfl
        simp only [e1, e2, e3, true_and]
        cases h2 : Wire.takeInt l a with
        | none => simp [numOk, h2]
        | some x =>
          obtain ⟨d, b⟩ := x
          have f1 : numN l a = b := by unfold numN; rw [h2]; rfl
          have f2 : numV l a = d := by unfold numV; rw [h2]; rfl
          have f3 : numOk l a = true := by unfold numOk; rw [h2]; rfl
          simp only [f1, f2, f3, true_and]
          cases h3 : Wire.takeInt l b with
          | none => simp [numOk, h3]
          | some x =>
            obtain ⟨n, c⟩ := x
            have g1 : numN l b = c := by unfold numN; rw [h3]; rfl
            have g2 : numV l b = n := by unfold numV; rw [h3]; rfl
            have g3 : numOk l b = true := by unfold numOk; rw [h3]; rfl
            simp only [g1, g2, g3, true_and]
            cases h4 : Wire.takeInt l c with
            | none => simp [numOk, h4]
            | some x =>
              obtain ⟨s, d'⟩ := x
              have k1 : numN l c = d' := by unfold numN; rw [h4]; rfl
              have k2 : numV l c = s := by unfold numV; rw [h4]; rfl
              have k3 : numOk l c = true := by unfold numOk; rw [h4]; rfl
              simp [k1, k2, k3]
    · simp [hc]
theorem dec_no_head {l : List UInt8} (h : l.head? ≠ some 84) : Orc.dec l = none := by unfold Orc.dec; rw [spelled_is, if_neg (fun e => h e.1)]
theorem dec_no_ok {l : List UInt8} {i : Nat} (hi : i ≤ 3) (h : rdK l i = false) : Orc.dec l = none := by
  unfold Orc.dec
  rw [spelled_is, if_neg]
  rintro ⟨_, h0, h1, h2, h3⟩
  rcases (by omega : i = 0 ∨ i = 1 ∨ i = 2 ∨ i = 3) with rfl | rfl | rfl | rfl
  · rw [h0] at h; cases h
  · rw [h1] at h; cases h
  · rw [h2] at h; cases h
  · rw [h3] at h; cases h
theorem dec_all {l : List UInt8} (hh : l.head? = some 84) (h : ∀ i, i ≤ 3 → rdK l i = true) : Orc.spelled l = some (rdTip l) := by
  rw [spelled_is, if_pos ⟨hh, h 0 (by omega), h 1 (by omega), h 2 (by omega), h 3 (by omega)⟩]
theorem dec_bad {l : List UInt8} (h : Orc.spelled l = some (rdTip l)) (hr : Orc.right (rdTip l) = false) : Orc.dec l = none := by
  unfold Orc.dec; rw [h]; simp only []; rw [if_neg (by rw [hr]; simp)]
theorem dec_good {l : List UInt8} (h : Orc.spelled l = some (rdTip l)) (hr : Orc.right (rdTip l) = true) : Orc.dec l = some (rdTip l) := by
  unfold Orc.dec; rw [h]; simp only []; rw [if_pos hr]
theorem rdA_le {l : List UInt8} (h : rdK l 3 = true) : rdA l 3 ≤ l.length := by
  simp only [rdK, rdA] at *
  unfold numOk at h
  unfold numN
  cases h2 : Wire.takeInt l (numN l (numN l (txtN l 1))) with
  | none => unfold numN at *; rw [h2] at h; cases h
  | some x =>
    obtain ⟨_, _, _, _, _, h5⟩ := Wire.takeInt_back (n := x.1) (next := x.2) h2
    unfold numN at *
    rw [h2]; exact h5
/-- What read leaves. -/
def ReadPost (l : List UInt8) (w : World) (e : Ending) (w' : World) : Prop :=
  Below w.heap.size w w' ∧ ((∃ t, Orc.dec l = some t ∧ e = .returned (.tuple #[.agg #[.string t.feed, .int .i64 t.day, .int .i64 t.n, .int .i64 t.seq, .string t.tag], .nilIface])) ∨
    (Orc.dec l = none ∧ ∃ b s, w.heap.size ≤ b ∧ RefusalAt w' b 210 s ∧ e = .returned (.tuple #[.agg #[.string ⟨#[]⟩, .int .i64 0, .int .i64 0, .int .i64 0, .string ⟨#[]⟩], .iface 101 (.pointer (some ⟨b, 0, none⟩))])))
/-- Behind read's first steps: its result's cell, its refusal. -/
structure RdAt (w : World) (rb eb : Nat) (s : ByteArray) (W : World) : Prop where
  bel : Below w.heap.size w W
  kr : W.heap[rb]? = some (.cells #[.string ⟨#[]⟩, .int .i64 0, .int .i64 0, .int .i64 0, .string ⟨#[]⟩] 23 (0, 0))
  ke : RefusalAt W eb 210 s
  lo : w.heap.size ≤ rb ∧ w.heap.size ≤ eb ∧ rb ≠ eb
theorem RdAt.below {w : World} {rb eb : Nat} {s : ByteArray} {W W' : World} (h : RdAt w rb eb s W) (B : Below W.heap.size W W') : RdAt w rb eb s W' :=
  ⟨Below.more h.bel B, block_kept B h.kr, h.ke.below B, h.lo⟩
theorem RdAt.cells {w : World} {rb eb : Nat} {s : ByteArray} {W : World} (h : RdAt w rb eb s W) : W.cell? ⟨rb, 0, none⟩ = some (.string ⟨#[]⟩) ∧ W.cell? ⟨rb, 1, none⟩ = some (.int .i64 0) ∧ W.cell? ⟨rb, 2, none⟩ = some (.int .i64 0) ∧ W.cell? ⟨rb, 3, none⟩ = some (.int .i64 0) ∧ W.cell? ⟨rb, 4, none⟩ = some (.string ⟨#[]⟩) ∧
    W.frozen? ⟨rb, 0, none⟩ = false ∧ W.frozen? ⟨rb, 1, none⟩ = false ∧ W.frozen? ⟨rb, 2, none⟩ = false ∧ W.frozen? ⟨rb, 3, none⟩ = false ∧ W.frozen? ⟨rb, 4, none⟩ = false := by
  obtain ⟨c, f⟩ := block_cells h.kr
  exact ⟨c 0 _ rfl, c 1 _ rfl, c 2 _ rfl, c 3 _ rfl, c 4 _ rfl, f 0, f 1, f 2, f 3, f 4⟩
/-- Five stores into a block of one's own. -/
theorem five_below {B : Nat} {w W : World} (h : Below B w W) {b : Nat} (hb : B ≤ b) (x0 x1 x2 x3 x4 : Value) :
    Below B w (((((W.setCell ⟨b, 0, none⟩ x0).setCell ⟨b, 1, none⟩ x1).setCell ⟨b, 2, none⟩ x2).setCell ⟨b, 3, none⟩ x3).setCell ⟨b, 4, none⟩ x4) :=
  ((((h.setCell (p := ⟨b, 0, none⟩) hb _).setCell (p := ⟨b, 1, none⟩) hb _).setCell (p := ⟨b, 2, none⟩) hb _).setCell (p := ⟨b, 3, none⟩) hb _).setCell (p := ⟨b, 4, none⟩) hb _
theorem five_other (W : World) {b k : Nat} (hk : k ≠ b) (x0 x1 x2 x3 x4 : Value) :
    (((((W.setCell ⟨b, 0, none⟩ x0).setCell ⟨b, 1, none⟩ x1).setCell ⟨b, 2, none⟩ x2).setCell ⟨b, 3, none⟩ x3).setCell ⟨b, 4, none⟩ x4).heap[k]? = W.heap[k]? := by
  rw [Below.heap_setCell _ _ _ _ hk, Below.heap_setCell _ _ _ _ hk, Below.heap_setCell _ _ _ _ hk, Below.heap_setCell _ _ _ _ hk, Below.heap_setCell _ _ _ _ hk]
theorem cell_same {W W' : World} {k o : Nat} {v : Value} (h : W.cell? ⟨k, o, none⟩ = some v) (e : W'.heap[k]? = W.heap[k]?) : W'.cell? ⟨k, o, none⟩ = some v := (World.cell?_of_block (w := W) e).trans h
theorem five_cell {W : World} {b k : Nat} (hk : k ≠ b) {o : Nat} {v : Value} (h : W.cell? ⟨k, o, none⟩ = some v) (x0 x1 x2 x3 x4 : Value) :
    (((((W.setCell ⟨b, 0, none⟩ x0).setCell ⟨b, 1, none⟩ x1).setCell ⟨b, 2, none⟩ x2).setCell ⟨b, 3, none⟩ x3).setCell ⟨b, 4, none⟩ x4).cell? ⟨k, o, none⟩ = some v :=
  cell_same h (five_other W hk x0 x1 x2 x3 x4)
theorem read_bad {w : World} {rb eb : Nat} {s : ByteArray} {W : World} {l : List UInt8} (h : RdAt w rb eb s W) (hd : Orc.dec l = none) (x0 x1 x2 x3 x4 : Value) :
    ReadPost l w (.returned (.tuple #[.agg #[.string ⟨#[]⟩, .int .i64 0, .int .i64 0, .int .i64 0, .string ⟨#[]⟩], .iface 101 (.pointer (some ⟨eb, 0, none⟩))])) (((((W.setCell ⟨rb, 0, none⟩ x0).setCell ⟨rb, 1, none⟩ x1).setCell ⟨rb, 2, none⟩ x2).setCell ⟨rb, 3, none⟩ x3).setCell ⟨rb, 4, none⟩ x4) :=
  ⟨five_below h.bel h.lo.1 _ _ _ _ _, .inr ⟨hd, eb, s, h.lo.2.1, by unfold RefusalAt; rw [five_other W (fun e => h.lo.2.2 e.symm)]; exact h.ke, rfl⟩⟩
theorem read_good {w : World} {rb eb : Nat} {s : ByteArray} {W : World} {l : List UInt8} {t : Orc.Tip} (h : RdAt w rb eb s W) (hd : Orc.dec l = some t) (x0 x1 x2 x3 x4 : Value) :
    ReadPost l w (.returned (.tuple #[.agg #[.string t.feed, .int .i64 t.day, .int .i64 t.n, .int .i64 t.seq, .string t.tag], .nilIface])) (((((W.setCell ⟨rb, 0, none⟩ x0).setCell ⟨rb, 1, none⟩ x1).setCell ⟨rb, 2, none⟩ x2).setCell ⟨rb, 3, none⟩ x3).setCell ⟨rb, 4, none⟩ x4) :=
  ⟨five_below h.bel h.lo.1 _ _ _ _ _, .inl ⟨t, hd, rfl⟩⟩
/-- .. and the array of three numbers, so many of them read. -/
structure RdN (l : List UInt8) (w : World) (rb eb nb : Nat) (s : ByteArray) (i : Nat) (W : World) : Prop where
  at' : RdAt w rb eb s W
  arr : W.heap[nb]? = some (.cells (rdArr l i) 100 (0, 0))
  lo : w.heap.size ≤ nb
  ne : nb ≠ rb ∧ nb ≠ eb
theorem RdN.below {l : List UInt8} {w : World} {rb eb nb : Nat} {s : ByteArray} {i : Nat} {W W' : World} (h : RdN l w rb eb nb s i W) (B : Below W.heap.size W W') : RdN l w rb eb nb s i W' :=
  ⟨h.at'.below B, block_kept B h.arr, h.lo, h.ne⟩
theorem RdN.step {l : List UInt8} {w : World} {rb eb nb : Nat} {s : ByteArray} {i : Nat} {W : World} (h : RdN l w rb eb nb s i W) (hi : i < 3) : (∃ u, W.cell? ⟨nb, i, none⟩ = some (.int .i64 u)) ∧ W.frozen? ⟨nb, i, none⟩ = false ∧ RdN l w rb eb nb s (i + 1) (W.setCell ⟨nb, i, none⟩ (.int .i64 (rdV l i))) := by
  obtain ⟨e, u, hu⟩ := rdArr_step l i hi
  obtain ⟨c, f⟩ := block_cells h.arr
  have hs := heap_setCell_same W nb i _ _ (.int .i64 (rdV l i)) h.arr
  rw [e] at hs
  refine ⟨⟨u, c i _ hu⟩, f i, ⟨h.at'.bel.setCell (p := ⟨nb, i, none⟩) h.lo _, ?_, ?_, h.at'.lo⟩, hs, h.lo, h.ne⟩
  · rw [Below.heap_setCell _ _ _ _ (fun e => h.ne.1 e.symm)]; exact h.at'.kr
  · unfold RefusalAt; rw [Below.heap_setCell _ _ _ _ (fun e => h.ne.2 e.symm)]; exact h.at'.ke
/-- Bytes that are read, or none at whatever place. -/
def Reads0 (w : World) (v : Value) (l : List UInt8) : Prop := Reads w v (nums l) ∨ (l = [] ∧ ∃ p, v = .slice p 0 0)
theorem Reads0.below {w w' : World} {v : Value} {l : List UInt8} (h : Reads0 w v l) (B : Below w.heap.size w w') : Reads0 w' v l := h.imp (fun h => h.below B) id
theorem Reads0.len {w : World} {v : Value} {l : List UInt8} (h : Reads0 w v l) : ∃ a c, v = .slice a (nums l).length c := by
  rcases h with h | ⟨rfl, p, rfl⟩
  · exact h.len
  · exact ⟨p, 0, rfl⟩
set_option maxHeartbeats 4000000 in
theorem read_any (v0 : Value) (l : List UInt8) (w : World) (h : Reads w v0 (nums l)) (hl : l.length ≤ 100000000) :
    Calls Tryz.prog 34 #[v0] w (ReadPost l w) := by
  have HTI := hid' (fun (a : Nat) (W : World) (hb : Below w.heap.size w W) => takeInt_any v0 l (a : Int) W (h.below hb) (by omega))
  have HTT := hid' (show ∀ (W : World), Below w.heap.size w W → Calls Tryz.prog 52 #[v0, .int .i64 1, .int .i64 24] W (Ret (.tuple #[.string (txtV l 1), .int .i64 (txtN l 1 : Int), .bool (txtOk l 1)]) W) from fun W hb => by
    have := takeText_any v0 l ((1 : Nat) : Int) 24 W (h.below hb) (by omega) (by omega)
    rw [takenS_is] at this
    exact this)
  simp only [takenI_is] at HTI
  have HR := hid' (fun (W : World) (hb : Below w.heap.size w W) => h.below hb)
  obtain ⟨p0, c0, rfl⟩ := h.len
  rw [nums_length] at *
  have HLL := hid' hl
  have l2 : (l.length : Int) ≤ 100000000 := by omega
  clear h hl
  go_enter Tryz.func34, Tryz.ntmps34
  go_wp2_with fail
  refine (refuse_any _ _ _).mono ?_
  rintro e w1 ⟨rfl, hw1⟩
  obtain ⟨W0, hW0⟩ : ∃ W0, W0 = w.alloc (.cells #[.string ⟨#[]⟩, .int .i64 0, .int .i64 0, .int .i64 0, .string ⟨#[]⟩] 23) := ⟨_, rfl⟩
  rw [← hW0] at hw1 ⊢
  have hsz : W0.heap.size = w.heap.size + 1 := by rw [hW0]; simp
  have HA := hid' (show RdAt w w.heap.size W0.heap.size ⟨#[110, 111, 32, 116, 105, 112]⟩ w1 by
    have hr : W0.heap[w.heap.size]? = some (.cells #[.string ⟨#[]⟩, .int .i64 0, .int .i64 0, .int .i64 0, .string ⟨#[]⟩] 23 (0, 0)) := by rw [hW0]; exact heap_alloc_new w (.cells #[.string ⟨#[]⟩, .int .i64 0, .int .i64 0, .int .i64 0, .string ⟨#[]⟩] 23)
    have hb : Below w.heap.size w W0 := by rw [hW0]; exact (Below.refl _ _).alloc (Nat.le_refl _) _
    subst hw1
    refine ⟨hb.alloc (by omega) _, ?_, ?_, Nat.le_refl _, by omega, by omega⟩
    · rw [Below.heap_alloc _ _ _ (lt_of_block hr)]; exact hr
    · exact heap_alloc_new W0 _)
  obtain ⟨eb, heb⟩ : ∃ eb, eb = W0.heap.size := ⟨_, rfl⟩
  rw [← heb] at HA ⊢
  obtain ⟨rb, hrb⟩ : ∃ rb, rb = w.heap.size := ⟨_, rfl⟩
  have HA := hid' (show RdAt w rb eb ⟨#[110, 111, 32, 116, 105, 112]⟩ w1 by rw [hrb]; exact HA.out)
  rw [← hrb]
  clear hw1 hsz heb hrb hW0
  obtain ⟨r0, r1, r2, r3, r4, f0, f1, f2, f3, f4⟩ := HA.out.cells
  by_cases h0 : l.length = 0
  · have g0 : ((l.length : Int) == 0) = true := by rw [beq_iff_eq]; omega
    have HD := hid' (dec_no_head (l := l) (by rw [List.length_eq_zero_iff.1 h0]; simp))
    clear h0
    go_wp2_with fail
    refine bodyPost_ret (v := .tuple #[.agg #[.string ⟨#[]⟩, .int .i64 0, .int .i64 0, .int .i64 0, .string ⟨#[]⟩], .iface 101 (.pointer (some ⟨eb, 0, none⟩))]) ?_ rfl ?_
    · simp [results, Tryz.results34, go_sem, r0, r1, r2, r3, r4]
    · exact read_bad HA.out HD.out _ _ _ _ _
  · have g0 : ((l.length : Int) == 0) = false := by rw [beq_eq_false_iff_ne]; omega
    obtain ⟨bb, off, hp, hb, hcell⟩ := Reads.cellAt (HR.out w1 HA.out.bel) 0 (by omega)
    subst hp
    have j2 : (0 : Int) < (l.length : Int) := by omega
    rw [Nat.add_zero] at hcell
    have hhead : l.head? = some (l.getD 0 0) := by
      cases l with
      | nil => exact absurd rfl h0
      | cons c r => rfl
    obtain ⟨x, hx⟩ : ∃ x : UInt8, x = l.getD 0 0 := ⟨_, rfl⟩
    rw [← hx] at hcell hhead
    have HH := hid' hhead
    clear h0 hb hx hhead
    by_cases h84 : x = 84
    · subst h84
      replace hcell : w1.cell? ⟨bb, off, none⟩ = some (.int .u8 84) := hcell
      go_wp2_with fail
      refine (HTT.out w1 HA.out.bel).mono ?_
      rintro e w2 ⟨rfl, hw2⟩
      subst hw2
      clear hcell
      go_wp2_with fail
      have HN0 := hid' (show RdN l w rb eb w2.heap.size ⟨#[110, 111, 32, 116, 105, 112]⟩ 0 (w2.alloc (.cells #[.int .i64 0, .int .i64 0, .int .i64 0] 100)) from
        ⟨HA.out.below ((Below.refl _ _).alloc (Nat.le_refl _) _), heap_alloc_new w2 _, HA.out.bel.size, by have := lt_of_block HA.out.kr; omega, by have := lt_of_block HA.out.ke; omega⟩)
      obtain ⟨nb, hnb⟩ : ∃ nb, nb = w2.heap.size := ⟨_, rfl⟩
      rw [← hnb] at HN0 ⊢
      generalize w2.alloc (.cells #[.int .i64 0, .int .i64 0, .int .i64 0] 100) = W2 at *
      have HOK0 := hid' (show ∀ j, j < 0 → rdK l j = true from fun j hj => by omega)
      clear hnb r0 r1 r2 r3 r4 f0 f1 f2 f3 f4 HA
      go_loopw [6, 7, 29] (fun av kv iv wr => ∃ i : Nat, iv = .int .i64 (i : Int) ∧ i ≤ 3 ∧ av = .int .i64 (rdA l i : Int) ∧ kv = .bool (rdK l i) ∧ Hid (∀ j, j < i → rdK l j = true) ∧ Hid (RdN l w rb eb nb ⟨#[110, 111, 32, 116, 105, 112]⟩ i wr)) (fun _ _ iv _ => 3 - (intOf iv).toNat)
      case atStart => exact ⟨0, rfl, by omega, rfl, rfl, HOK0, HN0⟩
      case round =>
        obtain ⟨i, rfl, hi3, rfl, rfl, HOK, HN⟩ := hrel
        by_cases hi : i < 3
        · have g2 : decide ((i : Int) < 3) = true := by simp; omega
          have j3 : (0 : Int) ≤ (i : Int) := by omega
          have j4 : (i : Int) < 3 := by omega
          have HI := hid' hi
          clear hi
          cases hk : rdK l i with
          | false =>
            have HD := hid' (dec_no_ok hi3 hk)
            obtain ⟨r0, r1, r2, r3, r4, f0, f1, f2, f3, f4⟩ := HN.out.at'.cells
            clear hk
            go_wp2_with fail
            refine bodyPost_ret (v := .tuple #[.agg #[.string ⟨#[]⟩, .int .i64 0, .int .i64 0, .int .i64 0, .string ⟨#[]⟩], .iface 101 (.pointer (some ⟨eb, 0, none⟩))]) ?_ rfl ?_
            · simp [results, Tryz.results34, go_sem, r0, r1, r2, r3, r4]
            · exact read_bad HN.out.at' HD.out _ _ _ _ _
          | true =>
            have HOK2 := hid' (show ∀ j, j < i + 1 → rdK l j = true from fun j hj => by
              by_cases e : j = i
              · rw [e]; exact hk
              · exact HOK.out j (by omega))
            have HST := hid' (HN.out.step HI.out)
            obtain ⟨⟨u, hu⟩, hfz, _⟩ := HST.out
            clear hk
            go_wp2_with fail
            refine (HTI.out (rdA l i) wr HN.out.at'.bel).mono ?_
            rintro e w3 ⟨rfl, hw3⟩
            subst hw3
            rw [show numV l (rdA l i) = rdV l i from rfl, show numN l (rdA l i) = rdA l (i + 1) from rfl, show numOk l (rdA l i) = rdK l (i + 1) from rfl]
            have HN2 := hid' HST.out.2.2
            go_wp2_with fail
            go_roundw
            case rel => exact ⟨i + 1, by go_num, by have := HI.out; omega, rfl, rfl, HOK2, HN2⟩
            case measure => have := HI.out; simp [intOf]; omega
        · obtain rfl : i = 3 := by omega
          rw [show ((3 : Nat) : Int) = (3 : Int) from rfl]
          clear hi
          cases hk : rdK l 3 with
          | false =>
            have HD := hid' (dec_no_ok (Nat.le_refl _) hk)
            obtain ⟨r0, r1, r2, r3, r4, f0, f1, f2, f3, f4⟩ := HN.out.at'.cells
            clear hk
            go_wp2_with fail
            refine bodyPost_ret (v := .tuple #[.agg #[.string ⟨#[]⟩, .int .i64 0, .int .i64 0, .int .i64 0, .string ⟨#[]⟩], .iface 101 (.pointer (some ⟨eb, 0, none⟩))]) ?_ rfl ?_
            · simp [results, Tryz.results34, go_sem, r0, r1, r2, r3, r4]
            · exact read_bad HN.out.at' HD.out _ _ _ _ _
          | true =>
            have HSP := hid' (dec_all HH.out (fun i hi => by
              by_cases e : i = 3
              · rw [e]; exact hk
              · exact HOK.out i (by omega)))
            have hle := rdA_le hk
            have HCV := hid' (fun (W : World) (hb : Below w.heap.size w W) => tail_conv (HR.out W hb) (rdA l 3) hle)
            have hle1 : (rdA l 3 : Int) ≤ (l.length : Int) := by omega
            have hle0 : (0 : Int) ≤ (rdA l 3 : Int) := by omega
            clear hk hle
            by_cases hci : c0 = rdA l 3
            · subst hci
              have HCV2 : ∀ (W : World), Below w.heap.size w W → (convert 24 9 (.slice (some ⟨bb, off, none⟩) (l.length - rdA l 3) 0)).run Tryz.prog W = .ok (.string ⟨(l.drop (rdA l 3)).toArray⟩) W := fun W hb => by
                have := HCV.out W hb
                rw [if_pos rfl, Nat.sub_self] at this
                exact this
              have HKB := hid' (fun (wx : World) (hbx : Below wr.heap.size wr wx) => show wx.cell? ⟨nb, 0, none⟩ = some (.int .i64 (rdV l 0)) ∧ wx.cell? ⟨nb, 1, none⟩ = some (.int .i64 (rdV l 1)) ∧ wx.cell? ⟨nb, 2, none⟩ = some (.int .i64 (rdV l 2)) ∧ (convert 24 9 (.slice (some ⟨bb, off, none⟩) (l.length - rdA l 3) 0)).run Tryz.prog wx = .ok (.string ⟨(l.drop (rdA l 3)).toArray⟩) wx from
                have c := (block_cells (HN.out.below hbx).arr).1
                ⟨c 0 _ rfl, c 1 _ rfl, c 2 _ rfl, HCV2 wx (Below.more HN.out.at'.bel hbx)⟩)
              clear HCV2
              go_upto_region 15 with (fail)
              go_cut [10] (fun v wx => ∃ b, v = .pointer (some ⟨b, 0, none⟩) ∧ w.heap.size ≤ b ∧ ∃ wn, wn = wx ∧ RdAt w rb eb ⟨#[110, 111, 32, 116, 105, 112]⟩ wn ∧ TipBox wn b (rdTip l))
              case first =>
                go_region_held3 (fun w' => w'.cell? ⟨nb, 0, none⟩ = some (.int .i64 (rdV l 0)) ∧ w'.cell? ⟨nb, 1, none⟩ = some (.int .i64 (rdV l 1)) ∧ w'.cell? ⟨nb, 2, none⟩ = some (.int .i64 (rdV l 2)) ∧ (convert 24 9 (.slice (some ⟨bb, off, none⟩) (l.length - rdA l 3) 0)).run Tryz.prog w' = .ok (.string ⟨(l.drop (rdA l 3)).toArray⟩) w') (first | exact HKB.out _ ((Below.refl _ _).drew) | exact HKB.out _ (((Below.refl _ _).drew).alloc (Nat.le_refl _) _)) (fail)
                all_goals
                  have HW9 := hid' (show Below wr.heap.size wr (wr.alloc (.cells #[.string (txtV l 1), .int .i64 (rdV l 0), .int .i64 (rdV l 1), .int .i64 (rdV l 2), .string ⟨(l.drop (rdA l 3)).toArray⟩] 23)).drew from ((Below.refl _ _).alloc (Nat.le_refl _) _).drew)
                  have HT9 := hid' (show TipBox (wr.alloc (.cells #[.string (txtV l 1), .int .i64 (rdV l 0), .int .i64 (rdV l 1), .int .i64 (rdV l 2), .string ⟨(l.drop (rdA l 3)).toArray⟩] 23)).drew wr.heap.size (rdTip l) from heap_alloc_new wr _)
                  go_wp2_with fail
                  go_meet
                  exact ⟨_, rfl, HN.out.at'.bel.size, _, rfl, HN.out.at'.below HW9.out, HT9.out⟩
              case rest =>
                obtain ⟨tb, rfl, htb, w5, rfl, hRA, hTB⟩ := hcut
                have HRA := hid' hRA
                have HTB := hid' hTB
                obtain ⟨t0, t1, t2, t3, t4, _⟩ := HTB.out.cells
                have HRG := hid' (right_any (rdTip l) w5 (by have := txtV_len l 1; show (txtV l 1).size ≤ _; omega))
                clear hRA hTB
                go_wp2_with fail
                refine HRG.out.mono ?_
                rintro e w6 ⟨rfl, b6⟩
                have HRA6 := hid' (HRA.out.below b6)
                have HTB6 := hid' (HTB.out.below b6)
                clear b6 t0 t1 t2 t3 t4 HRG HRA HTB
                obtain ⟨t0, t1, t2, t3, t4, _⟩ := HTB6.out.cells
                obtain ⟨r0, r1, r2, r3, r4, f0, f1, f2, f3, f4⟩ := HRA6.out.cells
                have hts : ((rdTip l).tag.size : Int) ≤ 100000000 := by
                  have : (rdTip l).tag.size = (l.drop (rdA l 3)).length := mk_size _
                  rw [this, List.length_drop]; have := HLL.out; omega
                cases hc : Orc.core (rdTip l) with
                | false =>
                  have HD := hid' (dec_bad HSP.out (by unfold Orc.right; rw [hc]; rfl))
                  clear hc
                  go_wp2_with fail
                  refine bodyPost_ret (v := .tuple #[.agg #[.string ⟨#[]⟩, .int .i64 0, .int .i64 0, .int .i64 0, .string ⟨#[]⟩], .iface 101 (.pointer (some ⟨eb, 0, none⟩))]) ?_ rfl ?_
                  · simp [results, Tryz.results34, go_sem, r0, r1, r2, r3, r4]
                  · exact read_bad HRA6.out HD.out _ _ _ _ _
                | true =>
                  by_cases h32 : (rdTip l).tag.size = 32
                  · have g7 : (((rdTip l).tag.size : Int) != 32) = false := by rw [bne_eq_false_iff_eq]; omega
                    have HD := hid' (dec_good HSP.out (by unfold Orc.right; rw [hc, decide_eq_true h32]; rfl))
                    clear hc h32
                    go_wp2_with fail
                    refine bodyPost_ret (v := .tuple #[.agg #[.string (rdTip l).feed, .int .i64 (rdTip l).day, .int .i64 (rdTip l).n, .int .i64 (rdTip l).seq, .string (rdTip l).tag], .nilIface]) ?_ rfl ?_
                    · simp [results, Tryz.results34, go_sem, r0, r1, r2, r3, r4]
                    · exact read_good HRA6.out HD.out _ _ _ _ _
                  · have g7 : (((rdTip l).tag.size : Int) != 32) = true := by rw [bne_iff_ne]; omega
                    have HD := hid' (dec_bad HSP.out (by unfold Orc.right; rw [decide_eq_false h32, Bool.and_false]))
                    clear hc h32
                    go_wp2_with fail
                    refine bodyPost_ret (v := .tuple #[.agg #[.string ⟨#[]⟩, .int .i64 0, .int .i64 0, .int .i64 0, .string ⟨#[]⟩], .iface 101 (.pointer (some ⟨eb, 0, none⟩))]) ?_ rfl ?_
                    · simp [results, Tryz.results34, go_sem, r0, r1, r2, r3, r4]
                    · exact read_bad HRA6.out HD.out _ _ _ _ _
            · have HCV2 : ∀ (W : World), Below w.heap.size w W → (convert 24 9 (.slice (some ⟨bb, off + rdA l 3, none⟩) (l.length - rdA l 3) (c0 - rdA l 3))).run Tryz.prog W = .ok (.string ⟨(l.drop (rdA l 3)).toArray⟩) W := fun W hb => by
                have := HCV.out W hb
                rw [if_neg hci] at this
                simpa [add_gen] using this
              have HKB := hid' (fun (wx : World) (hbx : Below wr.heap.size wr wx) => show wx.cell? ⟨nb, 0, none⟩ = some (.int .i64 (rdV l 0)) ∧ wx.cell? ⟨nb, 1, none⟩ = some (.int .i64 (rdV l 1)) ∧ wx.cell? ⟨nb, 2, none⟩ = some (.int .i64 (rdV l 2)) ∧ (convert 24 9 (.slice (some ⟨bb, off + rdA l 3, none⟩) (l.length - rdA l 3) (c0 - rdA l 3))).run Tryz.prog wx = .ok (.string ⟨(l.drop (rdA l 3)).toArray⟩) wx from
                have c := (block_cells (HN.out.below hbx).arr).1
                ⟨c 0 _ rfl, c 1 _ rfl, c 2 _ rfl, HCV2 wx (Below.more HN.out.at'.bel hbx)⟩)
              clear HCV2
              go_upto_region 15 with (fail)
              go_cut [10] (fun v wx => ∃ b, v = .pointer (some ⟨b, 0, none⟩) ∧ w.heap.size ≤ b ∧ ∃ wn, wn = wx ∧ RdAt w rb eb ⟨#[110, 111, 32, 116, 105, 112]⟩ wn ∧ TipBox wn b (rdTip l))
              case first =>
                go_region_held3 (fun w' => w'.cell? ⟨nb, 0, none⟩ = some (.int .i64 (rdV l 0)) ∧ w'.cell? ⟨nb, 1, none⟩ = some (.int .i64 (rdV l 1)) ∧ w'.cell? ⟨nb, 2, none⟩ = some (.int .i64 (rdV l 2)) ∧ (convert 24 9 (.slice (some ⟨bb, off + rdA l 3, none⟩) (l.length - rdA l 3) (c0 - rdA l 3))).run Tryz.prog w' = .ok (.string ⟨(l.drop (rdA l 3)).toArray⟩) w') (first | exact HKB.out _ ((Below.refl _ _).drew) | exact HKB.out _ (((Below.refl _ _).drew).alloc (Nat.le_refl _) _)) (fail)
                all_goals
                  have HW9 := hid' (show Below wr.heap.size wr (wr.alloc (.cells #[.string (txtV l 1), .int .i64 (rdV l 0), .int .i64 (rdV l 1), .int .i64 (rdV l 2), .string ⟨(l.drop (rdA l 3)).toArray⟩] 23)).drew from ((Below.refl _ _).alloc (Nat.le_refl _) _).drew)
                  have HT9 := hid' (show TipBox (wr.alloc (.cells #[.string (txtV l 1), .int .i64 (rdV l 0), .int .i64 (rdV l 1), .int .i64 (rdV l 2), .string ⟨(l.drop (rdA l 3)).toArray⟩] 23)).drew wr.heap.size (rdTip l) from heap_alloc_new wr _)
                  go_wp2_with fail
                  go_meet
                  exact ⟨_, rfl, HN.out.at'.bel.size, _, rfl, HN.out.at'.below HW9.out, HT9.out⟩
              case rest =>
                obtain ⟨tb, rfl, htb, w5, rfl, hRA, hTB⟩ := hcut
                have HRA := hid' hRA
                have HTB := hid' hTB
                obtain ⟨t0, t1, t2, t3, t4, _⟩ := HTB.out.cells
                have HRG := hid' (right_any (rdTip l) w5 (by have := txtV_len l 1; show (txtV l 1).size ≤ _; omega))
                clear hRA hTB
                go_wp2_with fail
                refine HRG.out.mono ?_
                rintro e w6 ⟨rfl, b6⟩
                have HRA6 := hid' (HRA.out.below b6)
                have HTB6 := hid' (HTB.out.below b6)
                clear b6 t0 t1 t2 t3 t4 HRG HRA HTB
                obtain ⟨t0, t1, t2, t3, t4, _⟩ := HTB6.out.cells
                obtain ⟨r0, r1, r2, r3, r4, f0, f1, f2, f3, f4⟩ := HRA6.out.cells
                have hts : ((rdTip l).tag.size : Int) ≤ 100000000 := by
                  have : (rdTip l).tag.size = (l.drop (rdA l 3)).length := mk_size _
                  rw [this, List.length_drop]; have := HLL.out; omega
                cases hc : Orc.core (rdTip l) with
                | false =>
                  have HD := hid' (dec_bad HSP.out (by unfold Orc.right; rw [hc]; rfl))
                  clear hc
                  go_wp2_with fail
                  refine bodyPost_ret (v := .tuple #[.agg #[.string ⟨#[]⟩, .int .i64 0, .int .i64 0, .int .i64 0, .string ⟨#[]⟩], .iface 101 (.pointer (some ⟨eb, 0, none⟩))]) ?_ rfl ?_
                  · simp [results, Tryz.results34, go_sem, r0, r1, r2, r3, r4]
                  · exact read_bad HRA6.out HD.out _ _ _ _ _
                | true =>
                  by_cases h32 : (rdTip l).tag.size = 32
                  · have g7 : (((rdTip l).tag.size : Int) != 32) = false := by rw [bne_eq_false_iff_eq]; omega
                    have HD := hid' (dec_good HSP.out (by unfold Orc.right; rw [hc, decide_eq_true h32]; rfl))
                    clear hc h32
                    go_wp2_with fail
                    refine bodyPost_ret (v := .tuple #[.agg #[.string (rdTip l).feed, .int .i64 (rdTip l).day, .int .i64 (rdTip l).n, .int .i64 (rdTip l).seq, .string (rdTip l).tag], .nilIface]) ?_ rfl ?_
                    · simp [results, Tryz.results34, go_sem, r0, r1, r2, r3, r4]
                    · exact read_good HRA6.out HD.out _ _ _ _ _
                  · have g7 : (((rdTip l).tag.size : Int) != 32) = true := by rw [bne_iff_ne]; omega
                    have HD := hid' (dec_bad HSP.out (by unfold Orc.right; rw [decide_eq_false h32, Bool.and_false]))
                    clear hc h32
                    go_wp2_with fail
                    refine bodyPost_ret (v := .tuple #[.agg #[.string ⟨#[]⟩, .int .i64 0, .int .i64 0, .int .i64 0, .string ⟨#[]⟩], .iface 101 (.pointer (some ⟨eb, 0, none⟩))]) ?_ rfl ?_
                    · simp [results, Tryz.results34, go_sem, r0, r1, r2, r3, r4]
                    · exact read_bad HRA6.out HD.out _ _ _ _ _
    · have hx2 := x.toNat_lt
      have g1 : ((x.toNat : Int) != 84) = true := by
        rw [bne_iff_ne]; intro e; apply h84
        apply UInt8.toNat_inj.1
        show x.toNat = 84
        omega
      have HD := hid' (dec_no_head (l := l) (by rw [HH.out]; intro e; exact h84 (Option.some.inj e)))
      clear h84
      go_wp2_with fail
      refine bodyPost_ret (v := .tuple #[.agg #[.string ⟨#[]⟩, .int .i64 0, .int .i64 0, .int .i64 0, .string ⟨#[]⟩], .iface 101 (.pointer (some ⟨eb, 0, none⟩))]) ?_ rfl ?_
      · simp [results, Tryz.results34, go_sem, r0, r1, r2, r3, r4]
      · exact read_bad HA.out HD.out _ _ _ _ _
/-- The number of the error. -/
def decCode (l : List UInt8) : Int := match Orc.dec l with | some _ => 0 | none => 210
/-- The tip, or an empty one. -/
def decTip (l : List UInt8) : Orc.Tip := (Orc.dec l).getD ⟨⟨#[]⟩, 0, 0, 0, ⟨#[]⟩⟩
def TipDec (l : List UInt8) (w : World) (e : Ending) (w' : World) : Prop := e = .returned (.tuple #[.agg #[.string (decTip l).feed, .int .i64 (decTip l).day, .int .i64 (decTip l).n, .int .i64 (decTip l).seq, .string (decTip l).tag], .int .i64 (decCode l)]) ∧ Below w.heap.size w w'
def tip0 : Orc.Tip := ⟨⟨#[]⟩, 0, 0, 0, ⟨#[]⟩⟩
theorem ReadPost.code {l : List UInt8} {w W : World} {e : Ending} (h : ReadPost l w e W) (hg : ErrVar w) : ∃ v : Value, e = .returned (.tuple #[.agg #[.string (decTip l).feed, .int .i64 (decTip l).day, .int .i64 (decTip l).n, .int .i64 (decTip l).seq, .string (decTip l).tag], v]) ∧ Below w.heap.size w W ∧ ∀ W', Below W.heap.size W W' → Calls Tryz.prog 35 #[v] W' (Gives (.int .i64 (decCode l)) W') := by
  obtain ⟨hb, ⟨t, hd, he⟩ | ⟨hd, b, s, hlo, hr, he⟩⟩ := h
  · have e1 : decTip l = t := by unfold decTip; rw [hd]; rfl
    have e2 : decCode l = 0 := by unfold decCode; rw [hd]
    rw [e1, e2]
    exact ⟨_, he, hb, fun W' hb' => code_nil W'⟩
  · have e1 : decTip l = tip0 := by unfold decTip; rw [hd]; rfl
    have e2 : decCode l = 210 := by unfold decCode; rw [hd]
    rw [e1, e2]
    exact ⟨_, he, hb, fun W' hb' => code_hit W' b 210 s (hr.below hb') ((hg.below hb).below hb')⟩
set_option maxHeartbeats 2000000 in
theorem read_any0 (v0 : Value) (l : List UInt8) (w : World) (h : Reads0 w v0 l) (hl : l.length ≤ 100000000) :
    Calls Tryz.prog 34 #[v0] w (ReadPost l w) := by
  rcases h with h | ⟨rfl, p0, rfl⟩
  · exact read_any v0 l w h hl
  clear hl
  go_enter Tryz.func34, Tryz.ntmps34
  go_wp2_with fail
  refine (refuse_any _ _ _).mono ?_
  rintro e w1 ⟨rfl, hw1⟩
  obtain ⟨W0, hW0⟩ : ∃ W0, W0 = w.alloc (.cells #[.string ⟨#[]⟩, .int .i64 0, .int .i64 0, .int .i64 0, .string ⟨#[]⟩] 23) := ⟨_, rfl⟩
  rw [← hW0] at hw1 ⊢
  have hsz : W0.heap.size = w.heap.size + 1 := by rw [hW0]; simp
  have HA := hid' (show RdAt w w.heap.size W0.heap.size ⟨#[110, 111, 32, 116, 105, 112]⟩ w1 by
    have hr : W0.heap[w.heap.size]? = some (.cells #[.string ⟨#[]⟩, .int .i64 0, .int .i64 0, .int .i64 0, .string ⟨#[]⟩] 23 (0, 0)) := by rw [hW0]; exact heap_alloc_new w (.cells #[.string ⟨#[]⟩, .int .i64 0, .int .i64 0, .int .i64 0, .string ⟨#[]⟩] 23)
    have hb : Below w.heap.size w W0 := by rw [hW0]; exact (Below.refl _ _).alloc (Nat.le_refl _) _
    subst hw1
    refine ⟨hb.alloc (by omega) _, ?_, ?_, Nat.le_refl _, by omega, by omega⟩
    · rw [Below.heap_alloc _ _ _ (lt_of_block hr)]; exact hr
    · exact heap_alloc_new W0 _)
  obtain ⟨eb, heb⟩ : ∃ eb, eb = W0.heap.size := ⟨_, rfl⟩
  rw [← heb] at HA ⊢
  obtain ⟨rb, hrb⟩ : ∃ rb, rb = w.heap.size := ⟨_, rfl⟩
  have HA := hid' (show RdAt w rb eb ⟨#[110, 111, 32, 116, 105, 112]⟩ w1 by rw [hrb]; exact HA.out)
  rw [← hrb]
  clear hw1 hsz heb hrb hW0
  obtain ⟨r0, r1, r2, r3, r4, f0, f1, f2, f3, f4⟩ := HA.out.cells
  · have HD := hid' (dec_no_head (l := []) (by simp))
    go_wp2_with fail
    refine bodyPost_ret (v := .tuple #[.agg #[.string ⟨#[]⟩, .int .i64 0, .int .i64 0, .int .i64 0, .string ⟨#[]⟩], .iface 101 (.pointer (some ⟨eb, 0, none⟩))]) ?_ rfl ?_
    · simp [results, Tryz.results34, go_sem, r0, r1, r2, r3, r4]
    · exact read_bad HA.out HD.out _ _ _ _ _
set_option maxHeartbeats 4000000 in
theorem decode_any (v0 : Value) (l : List UInt8) (w : World) (h : Reads w v0 (nums l)) (hl : l.length ≤ 100000000) (hg : ErrVar w) :
    Calls Tryz.prog 12 #[v0] w (TipDec l w) := by
  have HB0 := hid' (show Below w.heap.size w (w.alloc (.cells #[.string ⟨#[]⟩, .int .i64 0, .int .i64 0, .int .i64 0, .string ⟨#[]⟩] 23)) from (Below.refl _ _).alloc (Nat.le_refl _) _)
  have HRD := hid' (read_any v0 l (w.alloc (.cells #[.string ⟨#[]⟩, .int .i64 0, .int .i64 0, .int .i64 0, .string ⟨#[]⟩] 23)) (h.below HB0.out) hl)
  have HG := hid' (hg.below HB0.out)
  have HRB := hid' (heap_alloc_new w (.cells #[.string ⟨#[]⟩, .int .i64 0, .int .i64 0, .int .i64 0, .string ⟨#[]⟩] 23))
  obtain ⟨p0, c0, rfl⟩ := h.len
  clear h hl hg
  go_enter Tryz.func12, Tryz.ntmps12
  go_wp2_with fail
  refine HRD.out.mono ?_
  intro e w1 hp
  obtain ⟨v, rfl, hb1, hcode⟩ := hp.code HG.out
  have HC := hid' hcode
  have hk1 := block_kept hb1 HRB.out
  have HW1 := hid' (Below.more HB0.out hb1)
  have HLT := hid' (lt_of_block hk1)
  have HK1 := hid' hk1
  clear hp hcode hb1 hk1 HRD HB0 HRB
  generalize hT : decTip l = T at *
  generalize hD : decCode l = D at *
  go_upto_region 2 with (fail)
  have HT := hid' hT
  have HD := hid' hD
  clear hT hD
  have hB2 : Below w1.heap.size w1 (w1.alloc (.cells #[.string T.feed, .int .i64 T.day, .int .i64 T.n, .int .i64 T.seq, .string T.tag] 23)) := (Below.refl _ _).alloc (Nat.le_refl _) _
  have hT2 := TipBox.new w1 T
  obtain ⟨tb, htb⟩ : ∃ tb, tb = w1.heap.size := ⟨_, rfl⟩
  rw [← htb] at hT2 ⊢
  obtain ⟨rb, hrb⟩ : ∃ rb, rb = w.heap.size := ⟨_, rfl⟩
  have HRB := hid' (show w.heap.size ≤ rb by omega)
  have HNE := hid' (show tb ≠ rb by have := HLT.out; omega)
  rw [← hrb] at HK1 ⊢
  have HK2 := hid' (block_kept hB2 HK1.out)
  generalize w1.alloc (.cells #[.string T.feed, .int .i64 T.day, .int .i64 T.n, .int .i64 T.seq, .string T.tag] 23) = W2 at *
  have HC2 := hid' (fun (W' : World) (hb : Below W2.heap.size W2 W') => HC.out W' (Below.more hB2 hb))
  have HW2 := hid' (Below.more HW1.out hB2)
  have HTB := hid' (fun (W' : World) (hb : Below W2.heap.size W2 W') => (hT2.below hb).cells)
  have HRC := hid' (fun (W' : World) (hb : Below W2.heap.size W2 W') => block_cells (block_kept hb HK2.out))
  have hbx := (Below.refl W2.heap.size W2).drew
  clear hB2 hT2 htb hrb HC HW1 HLT HK1 HK2
  go_region_held3 (fun w' => w'.cell? ⟨tb, 0, none⟩ = some (.string T.feed) ∧ w'.cell? ⟨tb, 1, none⟩ = some (.int .i64 T.day) ∧ w'.cell? ⟨tb, 2, none⟩ = some (.int .i64 T.n) ∧ w'.cell? ⟨tb, 3, none⟩ = some (.int .i64 T.seq) ∧ w'.cell? ⟨tb, 4, none⟩ = some (.string T.tag)) (first | with_reducible exact ⟨(HTB.out _ hbx).1, (HTB.out _ hbx).2.1, (HTB.out _ hbx).2.2.1, (HTB.out _ hbx).2.2.2.1, (HTB.out _ hbx).2.2.2.2.1⟩ | exact ⟨five_cell HNE.out (HTB.out _ hbx).1 _ _ _ _ _, five_cell HNE.out (HTB.out _ hbx).2.1 _ _ _ _ _, five_cell HNE.out (HTB.out _ hbx).2.2.1 _ _ _ _ _, five_cell HNE.out (HTB.out _ hbx).2.2.2.1 _ _ _ _ _, five_cell HNE.out (HTB.out _ hbx).2.2.2.2.1 _ _ _ _ _⟩)
    (first | (go_at_call 35; refine (HC2.out _ hbx).mono ?_; rintro e w3 ⟨rfl, b3⟩; have hbx := Below.more hbx b3; have r0 := (HRC.out _ hbx).1 0 _ rfl; have r1 := (HRC.out _ hbx).1 1 _ rfl; have r2 := (HRC.out _ hbx).1 2 _ rfl; have r3 := (HRC.out _ hbx).1 3 _ rfl; have r4 := (HRC.out _ hbx).1 4 _ rfl; have f0 := (HRC.out _ hbx).2 0; have f1 := (HRC.out _ hbx).2 1; have f2 := (HRC.out _ hbx).2 2; have f3 := (HRC.out _ hbx).2 3; have f4 := (HRC.out _ hbx).2 4))
  all_goals
    go_wp2_with fail
    refine bodyPost_ret (v := .tuple #[.agg #[.string T.feed, .int .i64 T.day, .int .i64 T.n, .int .i64 T.seq, .string T.tag], .int .i64 D]) ?_ rfl ?_
    · simp [results, Tryz.results12, go_sem, r0, r1, r2, r3, r4]
    · rw [← HT.out, ← HD.out]
      exact ⟨rfl, five_below (Below.more HW2.out hbx) HRB.out _ _ _ _ _⟩
end Go.Proofs.YtmddaomchhigbaaGreatDoor
