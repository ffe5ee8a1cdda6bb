/- Proved: slices of waits and of instructions of the call's own: appending to them; what they are as a bytecode. -/
import Derived.Test.YtiejoapnljkjdaaGreatDoorGenRd
namespace Go.Proofs.YtiejoapnljkjdaaGreatDoor
open Go.RowKit
open Gen
set_option linter.unusedVariables false
set_option linter.unusedSimpArgs false
set_option maxRecDepth 100000
def wt5 (x : Gen.Wt) : List Value := [.int .i64 x.entry, .int .i64 x.day, .string x.label, .int .i64 x.first, .int .i64 x.second]
def ix7 (x : Gen.Ix) : List Value := [.int .i64 x.op, .int .i64 x.a, .int .i64 x.b, .int .i64 x.c, .int .i64 x.n, .string x.s, .int .i64 x.to]
theorem cells_at {α : Type} (f : α → List Value) (m : Nat) (hm : ∀ x, (f x).length = m) (L : List α) : ∀ (i : Nat) (x : α) (j : Nat), L[i]? = some x → j < m → (L.flatMap f)[i * m + j]? = (f x)[j]? := by
  induction L with
  | nil => intro i x j h; simp at h
  | cons y t ih =>
    intro i x j h hj
    rw [List.flatMap_cons]
    cases i with
    | zero =>
      simp at h; subst h
      rw [Nat.zero_mul, Nat.zero_add, List.getElem?_append_left (by rw [hm]; exact hj)]
    | succ i =>
      have := ih i x j (by simpa using h) hj
      rw [show (i + 1) * m + j = m + (i * m + j) by rw [Nat.add_mul]; omega, List.getElem?_append_right (by rw [hm]; omega), hm, Nat.add_sub_cancel_left]
      exact this
theorem cells_len {α : Type} (f : α → List Value) (m : Nat) (hm : ∀ x, (f x).length = m) (L : List α) : (L.flatMap f).length = L.length * m := by
  induction L with
  | nil => simp
  | cons y t ih => rw [List.flatMap_cons, List.length_append, hm, ih, List.length_cons, Nat.add_mul]; omega
def WtRow (base : Nat) (w : World) (v : Value) (L : List Gen.Wt) : Prop := w.ownsRow base 56 5 v L.length (L.flatMap wt5)
def IxRow (base : Nat) (w : World) (v : Value) (L : List Gen.Ix) : Prop := w.ownsRow base 53 7 v L.length (L.flatMap ix7)
theorem info_wait : (Tryz.prog.info? 56).map (fun i => (i.zero, i.size, i.bytes)) = some (some (.agg #[.int .i64 0, .int .i64 0, .string ⟨#[]⟩, .int .i64 0, .int .i64 0]), 5, 48) := by kernel_rfl
theorem info_instr : (Tryz.prog.info? 53).map (fun i => (i.zero, i.size, i.bytes)) = some (some (.agg #[.int .i64 0, .int .i64 0, .int .i64 0, .int .i64 0, .int .i64 0, .string ⟨#[]⟩, .int .i64 0]), 7, 64) := by kernel_rfl
theorem info_split {t : TypeId} {z : Value} {s b : Nat} (h : (Tryz.prog.info? t).map (fun i => (i.zero, i.size, i.bytes)) = some (some z, s, b)) :
    ∃ i, Tryz.prog.info? t = some i ∧ i.zero = some z ∧ i.size = s ∧ i.bytes = b := by
  cases hi : Tryz.prog.info? t with
  | none => rw [hi] at h; cases h
  | some i => rw [hi] at h; simp at h; exact ⟨i, rfl, h.1, h.2.1, h.2.2⟩
theorem append_wt {w : World} {ops : Array Oper} {rest : List Oper} {o : Oper} {a : Act} {Q : Exit → Act → World → Prop} (hgd : o.guard = none) (s x : Operand)
    (ho : o.op = .call { callee := .builtin .append, args := #[s, x], argTypes := #[22, 22] })
    (base : Nat) (v : Value) (L : List Gen.Wt) (hs : a.eval s = v) (hown : WtRow base w v L) (y : Gen.Wt) (hx : a.eval x = .slice (some ⟨w.heap.size, 0, none⟩) 1 1)
    (hbound : L.length + 1 ≤ 1000000) (hbase : base ≤ w.heap.size)
    (h : ∀ v' w', WtRow base w' v' (L ++ [y]) → w.grownBy w' v.ownBlock → wpList Tryz.prog ops Q rest (a.put o.dst v') w') :
    wpList Tryz.prog ops Q (o :: rest) a (w.alloc (.cells #[.int .i64 y.entry, .int .i64 y.day, .string y.label, .int .i64 y.first, .int .i64 y.second] 56)) := by
  obtain ⟨i, hi, hz, hsz, hby⟩ := info_split info_wait
  refine wpList_append_own _ hgd s x 22 ho base 56 i _ 5 48 Tryz.underlying22 hi hz hsz hby rfl (by decide) v L.length _ hs (World.ownsRow.alloc hown _) ⟨w.heap.size, 0, none⟩ 1 1 (wt5 y) hx rfl
    (fun j u hj => ?_) (fun u hu => ?_) (by unfold maxLen; omega) (by omega) (by simp; omega) (fun v' w' h1 h2 _ => h v' w' ?_ (grown_trans (grown_of_below ((Below.refl _ _).alloc (Nat.le_refl _) _) _) h2))
  · rw [add_gen, World.cell?_alloc_new, Nat.zero_add, ← hj]
    simp [wt5]
  · simp only [wt5, List.mem_cons, List.not_mem_nil, or_false] at hu
    rcases hu with rfl | rfl | rfl | rfl | rfl <;> rfl
  · show World.ownsRow w' base _ 5 v' (L ++ [y]).length ((L ++ [y]).flatMap wt5)
    rw [List.length_append, List.flatMap_append]
    simpa using h1
theorem append_ix {w : World} {ops : Array Oper} {rest : List Oper} {o : Oper} {a : Act} {Q : Exit → Act → World → Prop} (hgd : o.guard = none) (s x : Operand)
    (ho : o.op = .call { callee := .builtin .append, args := #[s, x], argTypes := #[23, 23] })
    (base : Nat) (v : Value) (L : List Gen.Ix) (hs : a.eval s = v) (hown : IxRow base w v L) (y : Gen.Ix) (hx : a.eval x = .slice (some ⟨w.heap.size, 0, none⟩) 1 1)
    (hbound : L.length + 1 ≤ 1000000) (hbase : base ≤ w.heap.size)
    (h : ∀ v' w', IxRow base w' v' (L ++ [y]) → w.grownBy w' v.ownBlock → wpList Tryz.prog ops Q rest (a.put o.dst v') w') :
    wpList Tryz.prog ops Q (o :: rest) a (w.alloc (.cells #[.int .i64 y.op, .int .i64 y.a, .int .i64 y.b, .int .i64 y.c, .int .i64 y.n, .string y.s, .int .i64 y.to] 53)) := by
  obtain ⟨i, hi, hz, hsz, hby⟩ := info_split info_instr
  refine wpList_append_own _ hgd s x 23 ho base 53 i _ 7 64 Tryz.underlying23 hi hz hsz hby rfl (by decide) v L.length _ hs (World.ownsRow.alloc hown _) ⟨w.heap.size, 0, none⟩ 1 1 (ix7 y) hx rfl
    (fun j u hj => ?_) (fun u hu => ?_) (by unfold maxLen; omega) (by omega) (by simp; omega) (fun v' w' h1 h2 _ => h v' w' ?_ (grown_trans (grown_of_below ((Below.refl _ _).alloc (Nat.le_refl _) _) _) h2))
  · rw [add_gen, World.cell?_alloc_new, Nat.zero_add, ← hj]
    simp [ix7]
  · simp only [ix7, List.mem_cons, List.not_mem_nil, or_false] at hu
    rcases hu with rfl | rfl | rfl | rfl | rfl | rfl | rfl <;> rfl
  · show World.ownsRow w' base _ 7 v' (L ++ [y]).length ((L ++ [y]).flatMap ix7)
    rw [List.length_append, List.flatMap_append]
    simpa using h1
theorem take_at {α : Type} {l m : List α} {n k : Nat} {x : α} (h : l.take n = m) (hx : m[k]? = some x) : l[k]? = some x := by
  rw [← h] at hx
  rw [List.getElem?_take] at hx
  split at hx
  · exact hx
  · cases hx
theorem WtRow.waits {base : Nat} {W : World} {v : Value} {L : List Gen.Wt} (h : WtRow base W v L) (hf : ∀ x ∈ L, WtFits x) : WaitsAt W v L := by
  obtain ⟨h0, ⟨rfl, hz⟩ | ⟨g, cap, cur, rfl, h2, h3, h4, h5, h6, h7⟩⟩ := h
  · exact ⟨none, 0, by rw [hz], ⟨by omega, by unfold maxLen; omega⟩, fun i w hi => by have := (List.getElem?_eq_some_iff.1 hi).1; omega⟩
  · refine ⟨_, cap, rfl, ⟨h4, h5⟩, fun i w hi => ⟨g, 0, rfl, lt_of_block h3, ?_, hf w (List.mem_of_getElem? hi)⟩⟩
    have ha := fun (j : Nat) (hj : j < 5) => cells_at wt5 5 (fun _ => rfl) L i w j hi hj
    have hc := fun (j : Nat) (hj : j < 5) (u : Value) (hu : (wt5 w)[j]? = some u) => (show W.cell? ⟨g, 0 + i * 5 + j, none⟩ = some u by
      have := take_at h7 ((ha j hj).trans hu)
      rw [Nat.zero_add]
      simp only [World.cell?, h3]
      rw [Array.getElem?_toList] at this
      simpa using this)
    exact ⟨hc 0 (by omega) _ rfl, hc 1 (by omega) _ rfl, hc 2 (by omega) _ rfl, hc 3 (by omega) _ rfl, hc 4 (by omega) _ rfl⟩
theorem IxRow.ins {base : Nat} {W : World} {v : Value} {L : List Gen.Ix} (h : IxRow base W v L) (hf : ∀ x ∈ L, IxFits x) : InsAt W v L := by
  obtain ⟨h0, ⟨rfl, hz⟩ | ⟨g, cap, cur, rfl, h2, h3, h4, h5, h6, h7⟩⟩ := h
  · exact ⟨none, 0, by rw [hz], ⟨by omega, by unfold maxLen; omega⟩, fun i w hi => by have := (List.getElem?_eq_some_iff.1 hi).1; omega⟩
  · refine ⟨_, cap, rfl, ⟨h4, h5⟩, fun i w hi => ⟨g, 0, rfl, lt_of_block h3, ?_, hf w (List.mem_of_getElem? hi)⟩⟩
    have ha := fun (j : Nat) (hj : j < 7) => cells_at ix7 7 (fun _ => rfl) L i w j hi hj
    have hc := fun (j : Nat) (hj : j < 7) (u : Value) (hu : (ix7 w)[j]? = some u) => (show W.cell? ⟨g, 0 + i * 7 + j, none⟩ = some u by
      have := take_at h7 ((ha j hj).trans hu)
      rw [Nat.zero_add]
      simp only [World.cell?, h3]
      rw [Array.getElem?_toList] at this
      simpa using this)
    exact ⟨hc 0 (by omega) _ rfl, hc 1 (by omega) _ rfl, hc 2 (by omega) _ rfl, hc 3 (by omega) _ rfl, hc 4 (by omega) _ rfl, hc 5 (by omega) _ rfl, hc 6 (by omega) _ rfl⟩
theorem row_form {W : World} {base : Nat} {e : TypeId} {s n : Nat} {v : Value} {xs : List Value} (h : W.ownsRow base e s v n xs) : ∃ p c, v = .slice p n c := by
  obtain ⟨h0, ⟨rfl, hz⟩ | ⟨g, cap, cur, rfl, _⟩⟩ := h
  · exact ⟨none, 0, by rw [hz]⟩
  · exact ⟨_, _, rfl⟩
/-- Decode's world: the box of the result, the reader, the bytecode so far. -/
structure DecSt (w : World) (b2 rb cb : Nat) (v0 : Value) (a : Nat) (ok : Bool) (regs : Int) (vw vi : Value) (lw : List Gen.Wt) (li : List Gen.Ix) (W : World) : Prop where
  bel : Below w.heap.size w W
  rd : RdBox W rb v0 a ok
  kc : CdBox W cb regs vw vi
  kr : CdBox W b2 0 (.slice none 0 0) (.slice none 0 0)
  ws : WtRow (cb + 1) W vw lw
  is : IxRow (cb + 1) W vi li
  lt : w.heap.size ≤ b2 ∧ b2 < rb ∧ rb < cb
theorem own_lt {W : World} {base : Nat} {e : TypeId} {s n : Nat} {v : Value} {xs : List Value} (h : W.ownsRow base e s v n xs) {k : Nat} (hk : k < base) : v.ownBlock ≠ some k := by
  rcases h.2 with ⟨rfl, _⟩ | ⟨g, cap, cur, rfl, hb, _⟩
  · intro e; cases e
  · intro e
    have e2 : g = k := Option.some.inj e
    omega
/-- Another block grows: all else is kept. -/
theorem DecSt.other {w : World} {b2 rb cb : Nat} {v0 : Value} {a : Nat} {ok : Bool} {regs : Int} {vw vi : Value} {lw : List Gen.Wt} {li : List Gen.Ix} {W W' : World} (h : DecSt w b2 rb cb v0 a ok regs vw vi lw li W) {k : Nat} (g : W.grownBy W' (some k))
    (h1 : w.heap.size ≤ k) (h2 : k ≠ b2) (h3 : k ≠ rb) (h4 : k ≠ cb) (h5 : vw.ownBlock ≠ some k) (h6 : vi.ownBlock ≠ some k) : DecSt w b2 rb cb v0 a ok regs vw vi lw li W' :=
  ⟨below_grown h.bel g h1 h.bel.size, box_grown g (Ne.symm h3) h.rd, box_grown g (Ne.symm h4) h.kc, box_grown g (Ne.symm h2) h.kr, World.ownsRow.kept h.ws g (.inr h5), World.ownsRow.kept h.is g (.inr h6), h.lt⟩
/-- The reader reads on. -/
theorem DecSt.read {w : World} {b2 rb cb : Nat} {v0 : Value} {a : Nat} {ok : Bool} {regs : Int} {vw vi : Value} {lw : List Gen.Wt} {li : List Gen.Ix} {W W' : World} (h : DecSt w b2 rb cb v0 a ok regs vw vi lw li W) {a' : Nat} {ok' : Bool} (g : W.grownBy W' (some rb)) (r : RdBox W' rb v0 a' ok') : DecSt w b2 rb cb v0 a' ok' regs vw vi lw li W' := by
  have hl := h.lt
  exact ⟨below_grown h.bel g (by omega) h.bel.size, r, box_grown g (by omega) h.kc, box_grown g (by omega) h.kr, World.ownsRow.kept h.ws g (.inr (own_lt h.ws (by omega))), World.ownsRow.kept h.is g (.inr (own_lt h.is (by omega))), h.lt⟩
theorem DecSt.below {w : World} {b2 rb cb : Nat} {v0 : Value} {a : Nat} {ok : Bool} {regs : Int} {vw vi : Value} {lw : List Gen.Wt} {li : List Gen.Ix} {W W' : World} (h : DecSt w b2 rb cb v0 a ok regs vw vi lw li W) (b : Below W.heap.size W W') : DecSt w b2 rb cb v0 a ok regs vw vi lw li W' := by
  have hl := h.lt
  exact h.read (grown_of_below b _) (box_below b h.rd)
end Go.Proofs.YtiejoapnljkjdaaGreatDoor
