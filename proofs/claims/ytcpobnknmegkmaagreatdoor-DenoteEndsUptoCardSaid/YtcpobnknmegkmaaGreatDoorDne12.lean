/- Proved: lemmas and contracts of the functions that the law reaches, part 12 of 28: OwnRows. Conditions: as each states. -/
import Derived.RangeFuncBox
import Derived.Deep.DeepCutAuto
import Derived.Test.YtcpobnknmegkmaaGreatDoorDne8
namespace Go.Proofs.YtcpobnknmegkmaaGreatDoor
open Go.RowKit
set_option linter.unusedVariables false
set_option linter.unusedSimpArgs false
namespace Rw
theorem add_gen (b off j : Nat) : (⟨b, off, none⟩ : Addr).add j = ⟨b, off + j, none⟩ := by unfold Addr.add; split <;> simp_all
theorem keep_all {W w1 : World} (B : Below W.heap.size W w1) : ∀ (a : Addr) (v : Value), W.cell? a = some v → w1.cell? a = some v := fun a v h => (B.cell (World.block_lt_of_cell? W a h)).trans h
theorem grown_refl (W : World) (r : Option Nat) : W.grownBy W r := ⟨rfl, rfl, rfl, Nat.le_refl _, fun _ _ _ => rfl⟩
theorem grown_of_below {W W' : World} (b : Below W.heap.size W W') (r : Option Nat) : W.grownBy W' r := ⟨b.os, b.tape, b.output, b.size, fun k hk _ => b.block k hk⟩
theorem grown_trans {A B C : World} {r : Option Nat} (h : A.grownBy B r) (k : B.grownBy C r) : A.grownBy C r :=
  ⟨k.os.trans h.os, k.tape.trans h.tape, k.output.trans h.output, Nat.le_trans h.size k.size, fun j hj hr => (k.block j (Nat.lt_of_lt_of_le hj h.size) hr).trans (h.block j hj hr)⟩
theorem below_grown {base B : Nat} {A W W' : World} (h : Below base A W) (g : W.grownBy W' (some B)) (hb : base ≤ B) (hs : base ≤ W.heap.size) : Below base A W' :=
  h.trans ⟨g.os, g.tape, g.output, g.size, fun k hk => g.block k (Nat.lt_of_lt_of_le hk hs) (fun e => by cases e; omega)⟩
theorem grown_set (W : World) (rb o : Nat) (u : Value) : W.grownBy (W.setCell ⟨rb, o, none⟩ u) (some rb) :=
  ⟨rfl, rfl, rfl, (KeepsWalks.setCell W _ u).size, fun k _ hk => Below.heap_setCell _ _ _ k (fun e => hk (by rw [e]))⟩
theorem frozen_of {W : World} {b o : Nat} {xs : Array Value} {t : TypeId} (h : W.heap[b]? = some (.cells xs t (0, 0))) : W.frozen? ⟨b, o, none⟩ = false := by simp [World.frozen?, h]
theorem cells_at {α : Type} (f : α → List Value) (m : Nat) (hm : ∀ x, (f x).length = m) (L : List α) : ∀ (i : Nat) (x : α) (j : Nat), L[i]? = some x → j < m → (L.flatMap f)[i * m + j]? = (f x)[j]? := by
  induction L with
  | nil => intro i x j h; simp at h
  | cons y t ih =>
    intro i x j h hj
    rw [List.flatMap_cons]
    cases i with
    | zero =>
      simp at h; subst h
      rw [Nat.zero_mul, Nat.zero_add, List.getElem?_append_left (by rw [hm]; exact hj)]
    | succ i =>
      have := ih i x j (by simpa using h) hj
      rw [show (i + 1) * m + j = m + (i * m + j) by rw [Nat.add_mul]; omega, List.getElem?_append_right (by rw [hm]; omega), hm, Nat.add_sub_cancel_left]
      exact this
theorem cells_len {α : Type} (f : α → List Value) (m : Nat) (hm : ∀ x, (f x).length = m) (L : List α) : (L.flatMap f).length = L.length * m := by
  induction L with
  | nil => simp
  | cons y t ih => rw [List.flatMap_cons, List.length_append, hm, ih, List.length_cons, Nat.add_mul]; omega
theorem info_split {t : TypeId} {z : Value} {s b : Nat} (h : (Tryz.prog.info? t).map (fun i => (i.zero, i.size, i.bytes)) = some (some z, s, b)) :
    ∃ i, Tryz.prog.info? t = some i ∧ i.zero = some z ∧ i.size = s ∧ i.bytes = b := by
  cases hi : Tryz.prog.info? t with
  | none => rw [hi] at h; cases h
  | some i => rw [hi] at h; simp at h; exact ⟨i, rfl, h.1, h.2.1, h.2.2⟩
theorem take_at {α : Type} {l m : List α} {n k : Nat} {x : α} (h : l.take n = m) (hx : m[k]? = some x) : l[k]? = some x := by
  rw [← h] at hx
  rw [List.getElem?_take] at hx
  split at hx
  · exact hx
  · cases hx
theorem row_form {W : World} {base : Nat} {e : TypeId} {s n : Nat} {v : Value} {xs : List Value} (h : W.ownsRow base e s v n xs) : ∃ p c, v = .slice p n c := by
  obtain ⟨h0, ⟨rfl, hz⟩ | ⟨g, cap, cur, rfl, _⟩⟩ := h
  · exact ⟨none, 0, by rw [hz]⟩
  · exact ⟨_, _, rfl⟩
theorem own_lt {W : World} {base : Nat} {e : TypeId} {s n : Nat} {v : Value} {xs : List Value} (h : W.ownsRow base e s v n xs) {k : Nat} (hk : k < base) : v.ownBlock ≠ some k := by
  rcases h.2 with ⟨rfl, _⟩ | ⟨g, cap, cur, rfl, hb, _⟩
  · intro e; cases e
  · intro e
    have e2 : g = k := Option.some.inj e
    omega
theorem row_ne {W : World} {b1 b2 s1 s2 n1 n2 : Nat} {t1 t2 : TypeId} {v1 v2 : Value} {x1 x2 : List Value} (h1 : W.ownsRow b1 t1 s1 v1 n1 x1) (h2 : W.ownsRow b2 t2 s2 v2 n2 x2) (ht : t1 ≠ t2) : v1.ownBlock = none ∨ v1.ownBlock ≠ v2.ownBlock := by
  rcases h1.2 with ⟨rfl, _⟩ | ⟨g1, c1, u1, rfl, _, e1, _⟩
  · exact .inl rfl
  · refine .inr ?_
    rcases h2.2 with ⟨rfl, _⟩ | ⟨g2, c2, u2, rfl, _, e2, _⟩
    · intro e; cases e
    · intro e
      have e3 : g1 = g2 := Option.some.inj e
      rw [e3, e2] at e1
      simp at e1
      exact ht e1.2.symm
theorem own_new {W : World} {base : Nat} {e : TypeId} {s n : Nat} {v : Value} {xs : List Value} (h : W.ownsRow base e s v n xs) : v.ownBlock ≠ some W.heap.size := by
  rcases h.2 with ⟨rfl, _⟩ | ⟨g, cap, cur, rfl, _, hg, _⟩
  · intro e; cases e
  · intro e
    have e3 : g = W.heap.size := Option.some.inj e
    have := lt_of_block hg
    omega
theorem keep_below {W w1 w2 : World} (B : Below W.heap.size W w1) : Below w2.heap.size w2 W → Below w2.heap.size w2 w1 := fun h => Below.more h B
theorem alloc_cell {w : World} {p : Addr} {v : Value} (h : w.cell? p = some v) (o : Obj) : (w.alloc o).cell? p = some v :=
  (((Below.refl w.heap.size w).alloc (Nat.le_refl _) o).cell (World.block_lt_of_cell? _ _ h)).trans h
theorem box_grown {W W' : World} {b B : Nat} {o : Obj} (g : W.grownBy W' (some B)) (hne : b ≠ B) (h : W.heap[b]? = some o) : W'.heap[b]? = some o := (g.block b (lt_of_block h) (fun e => by cases e; exact hne rfl)).trans h
end Rw
end Go.Proofs.YtcpobnknmegkmaaGreatDoor
