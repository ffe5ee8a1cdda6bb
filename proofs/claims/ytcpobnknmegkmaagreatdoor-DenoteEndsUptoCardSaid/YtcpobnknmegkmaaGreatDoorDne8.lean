/- Proved: lemmas and contracts of the functions that the law reaches, part 8 of 28: Bytes, GenMem, Core, CoreIn. Conditions: as each states. -/
import Derived.WalkKit
import Derived.WalkLawsBesides
import Derived.Below
import Derived.Laws.AppendOwn
import Derived.Laws.MakeOwn
import Derived.Laws.BytesArg
import Derived.Lib.AppendStr
import Derived.Lib.BufferRead
import Derived.Laws.AppendOwnNone
import Derived.Deep.OwnRows
import Derived.Test.YtcpobnknmegkmaaGreatDoorDne2
import Derived.Test.YtcpobnknmegkmaaGreatDoorDne5
namespace Go.Proofs.YtcpobnknmegkmaaGreatDoor
open Go.RowKit
set_option linter.unusedVariables false

theorem lt_of_block {w : World} {b : Nat} {o : Obj} (h : w.heap[b]? = some o) : b < w.heap.size := by
  rcases Nat.lt_or_ge b w.heap.size with h' | h'
  · exact h'
  · rw [Array.getElem?_eq_none h'] at h
    simp at h
theorem info_byte : (Tryz.prog.info? 5).map (fun i => (i.zero, i.size, i.bytes)) = some (some (.int .u8 0), 1, 1) := by kernel_rfl
theorem madeCells_one (z : Value) (n : Nat) : madeCells #[z] n = Array.replicate n z := by
  apply Array.ext (by simp [madeCells])
  intro i h1 h2
  simp [madeCells, Nat.mod_one]
/-- The slice v, the call's own from block base on, holds the bytes l. -/
def Owns (base : Nat) (w : World) (v : Value) (l : List Int) : Prop := w.ownsRow base 5 1 v l.length (l.map (.int .u8))
theorem Owns.nil (base : Nat) (w : World) : Owns base w (.slice none 0 0) [] := w.ownsRow_nil base _ 1
theorem Owns.made {base : Nat} {w : World} (hb : base ≤ w.heap.size) (cur : Array Value) (hm : cur.size ≤ maxLen) : Owns base (w.alloc (.cells cur 5)) (.slice (some ⟨w.heap.size, 0, none⟩) 0 cur.size) [] :=
  w.ownsRow_made cur cur.size hb hm (by omega)
theorem Owns.alloc {base : Nat} {w : World} {v : Value} {l : List Int} (h : Owns base w v l) (o : Obj) : Owns base (w.alloc o) v l := World.ownsRow.alloc h o
theorem Owns.drew {base : Nat} {w : World} {v : Value} {l : List Int} (h : Owns base w v l) : Owns base w.drew v l := World.ownsRow.drew h
theorem Owns.drewN {base : Nat} {w : World} {v : Value} {l : List Int} (h : Owns base w v l) (n : Nat) : Owns base (w.drewN n) v l := h
theorem Owns.below {base : Nat} {w w' : World} {v : Value} {l : List Int} (h : Owns base w v l) (hb : Below w.heap.size w w') : Owns base w' v l := by
  obtain ⟨h1, h2⟩ := h
  refine ⟨h1, ?_⟩
  rcases h2 with h2 | ⟨g, cap, cur, hv, hg, hh, r⟩
  · exact Or.inl h2
  · have hlt : g < w.heap.size := by
      rcases Nat.lt_or_ge g w.heap.size with h | h
      · exact h
      · rw [Array.getElem?_eq_none h] at hh
        simp at hh
    exact Or.inr ⟨g, cap, cur, hv, hg, (hb.block g hlt).trans hh, r⟩
theorem Owns.mono {base base' : Nat} {w : World} {v : Value} {l : List Int} (h : Owns base w v l) (hb : base' ≤ base) : Owns base' w v l := by
  obtain ⟨h1, h2⟩ := h
  refine ⟨h1, ?_⟩
  rcases h2 with h2 | ⟨g, cap, cur, hv, hg, r⟩
  · exact Or.inl h2
  · exact Or.inr ⟨g, cap, cur, hv, by omega, r⟩
theorem Owns.shape {base : Nat} {w : World} {v : Value} {l : List Int} (h : Owns base w v l) :
    (v = .slice none 0 0 ∧ l = []) ∨ ∃ g cap, v = .slice (some ⟨g, 0, none⟩) l.length cap ∧ base ≤ g ∧ g < w.heap.size ∧ l.length ≤ cap ∧ cap ≤ maxLen ∧ (∀ i, i < l.length → w.cell? ⟨g, i, none⟩ = some (.int .u8 (l.getD i 0))) ∧ ∀ i, w.frozen? ⟨g, i, none⟩ = false := by
  have h' := h
  obtain ⟨h1, h2⟩ := h
  rcases h2 with ⟨hv, h0⟩ | ⟨g, cap, cur, hv, hg, hh, hc, hm, r⟩
  · exact Or.inl ⟨hv, List.length_eq_zero_iff.1 h0⟩
  · have hlt : g < w.heap.size := by
      rcases Nat.lt_or_ge g w.heap.size with h | h
      · exact h
      · rw [Array.getElem?_eq_none h] at hh
        simp at hh
    refine Or.inr ⟨g, cap, hv, hg, hlt, hc, hm, fun i hi => ?_, fun i => frozen_of_row _ _ _ _ _ hh⟩
    subst hv
    rw [World.ownsRow.cellAt h' i (by omega)]
    simp [hi]
theorem strCells_nums (s : ByteArray) : Lib.strCells s = (s.data.toList.map fun c => (c.toNat : Int)).map (.int .u8) := by
  simp [Lib.strCells]
theorem Owns.block {base : Nat} {w : World} {v : Value} {l : List Int} (h : Owns base w v l) : ∀ k, v.ownBlock = some k → base ≤ k := fun k hk => (World.ownsRow.lt h k hk).1
theorem Below.owned {base B : Nat} {a w w' : World} {v : Value} {l : List Int} (h : Below B a w) (hg : w.grownBy w' v.ownBlock) (ho : Owns base w v l) (hB : B ≤ w.heap.size) (hBb : B ≤ base) : Below B a w' :=
  h.grown hg hB fun k hk => by have := ho.block k hk; omega
theorem grown_trans' {a b c : World} {row : Option Nat} (h : a.grownBy b row) (k : b.grownBy c row) : a.grownBy c row :=
  ⟨k.os.trans h.os, k.tape.trans h.tape, k.output.trans h.output, Nat.le_trans h.size k.size, fun i hi hn => (k.block i (Nat.lt_of_lt_of_le hi h.size) hn).trans (h.block i hi hn)⟩
/-- A slice of bytes that can be read as a list. -/
def Reads (w : World) (v : Value) (l : List Int) : Prop :=
  (v = .slice none 0 0 ∧ l = []) ∨ ∃ b off c, v = .slice (some ⟨b, off, none⟩) l.length c ∧ b < w.heap.size ∧ l.length ≤ c ∧ c ≤ maxLen ∧ ∀ i, i < l.length → w.cell? ⟨b, off + i, none⟩ = some (.int .u8 (l.getD i 0))
theorem Owns.reads {base : Nat} {w : World} {v : Value} {l : List Int} (h : Owns base w v l) : Reads w v l := by
  rcases h.shape with h | ⟨g, cap, hv, _, hl, hc, hm, hcell, _⟩
  · exact Or.inl h
  · exact Or.inr ⟨g, 0, cap, hv, hl, hc, hm, fun i hi => by rw [Nat.zero_add]; exact hcell i hi⟩
theorem Reads.below {w w' : World} {v : Value} {l : List Int} (h : Reads w v l) (hb : Below w.heap.size w w') : Reads w' v l := by
  rcases h with h | ⟨b, off, c, hv, hl, hc, hm, hcell⟩
  · exact Or.inl h
  · exact Or.inr ⟨b, off, c, hv, Nat.lt_of_lt_of_le hl hb.size, hc, hm, fun i hi => (hb.cell (p := ⟨b, off + i, none⟩) hl).trans (hcell i hi)⟩
theorem Reads.alloc {w : World} {v : Value} {l : List Int} (h : Reads w v l) (o : Obj) : Reads (w.alloc o) v l := h.below ((Below.refl _ _).alloc (Nat.le_refl _) o)
theorem Reads.len {w : World} {v : Value} {l : List Int} (h : Reads w v l) : ∃ a c, v = .slice a l.length c := by
  rcases h with ⟨rfl, rfl⟩ | ⟨b, off, c, hv, _⟩
  · exact ⟨none, 0, rfl⟩
  · exact ⟨_, c, hv⟩
end Go.Proofs.YtcpobnknmegkmaaGreatDoor
namespace Go.Proofs.YtcpobnknmegkmaaGreatDoor
open Go.RowKit
open Gen
set_option linter.unusedVariables false
set_option linter.unusedSimpArgs false
def I64 (n : Int) : Prop := -9223372036854775808 ≤ n ∧ n ≤ 9223372036854775807
structure WtFits (w : Gen.Wt) : Prop where
  entry : I64 w.entry
  day : I64 w.day
  label : w.label.size ≤ 2000000
  first : I64 w.first
  second : I64 w.second
structure IxFits (x : Gen.Ix) : Prop where
  op : I64 x.op
  a : I64 x.a
  b : I64 x.b
  c : I64 x.c
  n : I64 x.n
  s : x.s.size ≤ 2000000
  to : I64 x.to
/-- Waits as they are read. -/
def WaitsAt (W : World) (v : Value) (l : List Gen.Wt) : Prop := ∃ p c, v = .slice p l.length c ∧ (l.length ≤ c ∧ c ≤ maxLen) ∧ ∀ (i : Nat) w, l[i]? = some w → ∃ b off, p = some ⟨b, off, none⟩ ∧ b < W.heap.size ∧
  (W.cell? ⟨b, off + i * 5, none⟩ = some (.int .i64 w.entry) ∧ W.cell? ⟨b, off + i * 5 + 1, none⟩ = some (.int .i64 w.day) ∧ W.cell? ⟨b, off + i * 5 + 2, none⟩ = some (.string w.label) ∧ W.cell? ⟨b, off + i * 5 + 3, none⟩ = some (.int .i64 w.first) ∧ W.cell? ⟨b, off + i * 5 + 4, none⟩ = some (.int .i64 w.second)) ∧ WtFits w
/-- Instructions as they are read. -/
def InsAt (W : World) (v : Value) (l : List Gen.Ix) : Prop := ∃ p c, v = .slice p l.length c ∧ (l.length ≤ c ∧ c ≤ maxLen) ∧ ∀ (i : Nat) x, l[i]? = some x → ∃ b off, p = some ⟨b, off, none⟩ ∧ b < W.heap.size ∧
  (W.cell? ⟨b, off + i * 7, none⟩ = some (.int .i64 x.op) ∧ W.cell? ⟨b, off + i * 7 + 1, none⟩ = some (.int .i64 x.a) ∧ W.cell? ⟨b, off + i * 7 + 2, none⟩ = some (.int .i64 x.b) ∧ W.cell? ⟨b, off + i * 7 + 3, none⟩ = some (.int .i64 x.c) ∧ W.cell? ⟨b, off + i * 7 + 4, none⟩ = some (.int .i64 x.n) ∧ W.cell? ⟨b, off + i * 7 + 5, none⟩ = some (.string x.s) ∧ W.cell? ⟨b, off + i * 7 + 6, none⟩ = some (.int .i64 x.to)) ∧ IxFits x
/-- A bytecode by value. -/
def CdAt (W : World) (v : Value) (c : Gen.Cd) : Prop := ∃ vw vi, v = .agg #[.int .i64 c.regs, vw, vi] ∧ WaitsAt W vw c.waits ∧ InsAt W vi c.ins ∧ I64 c.regs
theorem cell_below {W W' : World} {b j : Nat} {v : Value} (B : Below W.heap.size W W') (hb : b < W.heap.size) (h : W.cell? ⟨b, j, none⟩ = some v) : W'.cell? ⟨b, j, none⟩ = some v := (B.cell (p := ⟨b, j, none⟩) hb).trans h
theorem WaitsAt.below {W W' : World} {v : Value} {l : List Gen.Wt} (h : WaitsAt W v l) (B : Below W.heap.size W W') : WaitsAt W' v l := by
  obtain ⟨p, c, e, hl, h⟩ := h
  refine ⟨p, c, e, hl, fun i w hw => ?_⟩
  obtain ⟨b, off, e, hb, ⟨h0, h1, h2, h3, h4⟩, hf⟩ := h i w hw
  exact ⟨b, off, e, Nat.lt_of_lt_of_le hb B.size, ⟨cell_below B hb h0, cell_below B hb h1, cell_below B hb h2, cell_below B hb h3, cell_below B hb h4⟩, hf⟩
theorem InsAt.below {W W' : World} {v : Value} {l : List Gen.Ix} (h : InsAt W v l) (B : Below W.heap.size W W') : InsAt W' v l := by
  obtain ⟨p, c, e, hl, h⟩ := h
  refine ⟨p, c, e, hl, fun i w hw => ?_⟩
  obtain ⟨b, off, e, hb, ⟨h0, h1, h2, h3, h4, h5, h6⟩, hf⟩ := h i w hw
  exact ⟨b, off, e, Nat.lt_of_lt_of_le hb B.size, ⟨cell_below B hb h0, cell_below B hb h1, cell_below B hb h2, cell_below B hb h3, cell_below B hb h4, cell_below B hb h5, cell_below B hb h6⟩, hf⟩
theorem CdAt.below {W W' : World} {v : Value} {c : Gen.Cd} (h : CdAt W v c) (B : Below W.heap.size W W') : CdAt W' v c := by
  obtain ⟨vw, vi, e, h1, h2, h3⟩ := h
  exact ⟨vw, vi, e, h1.below B, h2.below B, h3⟩
end Go.Proofs.YtcpobnknmegkmaaGreatDoor
namespace Go.Proofs.YtcpobnknmegkmaaGreatDoor
open Go.RowKit
set_option linter.unusedVariables false
set_option linter.unusedSimpArgs false
namespace Co
/-- A core term. -/
inductive T where
  | mk (op n : Int) (s : ByteArray) (ks : List T)
instance : Inhabited T := ⟨.mk 0 0 ⟨#[]⟩ []⟩
def T.op : T → Int
  | .mk o _ _ _ => o
def T.n : T → Int
  | .mk _ n _ _ => n
def T.s : T → ByteArray
  | .mk _ _ s _ => s
def T.ks : T → List T
  | .mk _ _ _ ks => ks
theorem T.ind {P : T → Prop} (h : ∀ o n s ks, (∀ k ∈ ks, P k) → P (.mk o n s ks)) (t : T) : P t :=
  T.rec (motive_1 := P) (motive_2 := fun ks => ∀ k ∈ ks, P k) (fun o n s ks ih => h o n s ks ih) (fun k hk => by cases hk)
    (fun a r ha hr k hk => (List.mem_cons.1 hk).elim (fun e => e ▸ ha) (fun h => hr k h)) t
mutual
/-- How many terms. -/
def T.size : T → Nat
  | .mk _ _ _ ks => 1 + sizes ks
def sizes : List T → Nat
  | [] => 0
  | k :: r => k.size + sizes r
end
mutual
/-- A term's terms, a term ahead of its kids, with how deep each stands. -/
def T.all : T → Int → List (Int × T)
  | .mk o n s ks, d => (d, .mk o n s ks) :: alls ks (d + 1)
def alls : List T → Int → List (Int × T)
  | [], _ => []
  | k :: r, d => k.all d ++ alls r d
end
theorem sizes_mem {ks : List T} {k : T} (h : k ∈ ks) : k.size ≤ sizes ks := by
  induction ks with
  | nil => cases h
  | cons a r ih =>
    rw [sizes]
    rcases List.mem_cons.1 h with rfl | h
    · omega
    · have := ih h; omega
theorem size_pos (t : T) : 1 ≤ t.size := by cases t; rw [T.size]; omega
theorem sizes_len (ks : List T) : ks.length ≤ sizes ks := by
  induction ks with
  | nil => exact Nat.zero_le _
  | cons a r ih => have := size_pos a; rw [sizes, List.length_cons]; omega
theorem all_length (t : T) : ∀ d, (t.all d).length = t.size := by
  refine T.ind (P := fun t => ∀ d, (t.all d).length = t.size) (fun o n s ks ih d => ?_) t
  have : ∀ (l : List T), (∀ k ∈ l, ∀ d, (k.all d).length = k.size) → ∀ d, (alls l d).length = sizes l := by
    intro l
    induction l with
    | nil => intro _ d; rfl
    | cons a r ih2 =>
      intro h d
      rw [alls, sizes, List.length_append, h a (List.mem_cons_self ..) d, ih2 (fun k hk => h k (List.mem_cons_of_mem _ hk)) d]
  rw [T.all, T.size, List.length_cons, this ks ih]
  omega
end Co
/-- The row of a slice of terms, its place being p, is by value v. -/
def RowAt (B : Nat) (W : World) (p : Option Addr) (i : Nat) (v : Value) : Prop := ∃ b off x y z u, p = some ⟨b, off, none⟩ ∧ b < B ∧ v = .agg #[x, y, z, u] ∧
  W.cell? ⟨b, off + i * 4, none⟩ = some x ∧ W.cell? ⟨b, off + i * 4 + 1, none⟩ = some y ∧ W.cell? ⟨b, off + i * 4 + 2, none⟩ = some z ∧ W.cell? ⟨b, off + i * 4 + 3, none⟩ = some u
/-- A term by value, all of whose memory lies below B. -/
inductive CoreAt (B : Nat) (W : World) : Co.T → Value → Prop
  | mk {op n : Int} {s : ByteArray} {ks : List Co.T} {p : Option Addr} {c : Nat} (vs : Nat → Value) (hc : ks.length ≤ c ∧ c ≤ maxLen) (ho : I64 op) (hn : I64 n) (hs : s.size ≤ 2000000)
      (hr : ∀ i k, ks[i]? = some k → RowAt B W p i (vs i)) (hk : ∀ i k, ks[i]? = some k → CoreAt B W k (vs i)) : CoreAt B W (.mk op n s ks) (.agg #[.int .i64 op, .int .i64 n, .string s, .slice p ks.length c])
theorem RowAt.kept {B B' : Nat} {W W' : World} {p : Option Addr} {i : Nat} {v : Value} (h : RowAt B W p i v) (hb : Below B W W') (hB : B ≤ B') : RowAt B' W' p i v := by
  obtain ⟨b, off, x, y, z, u, e, hl, hv, h0, h1, h2, h3⟩ := h
  exact ⟨b, off, x, y, z, u, e, Nat.lt_of_lt_of_le hl hB, hv, (hb.cell (p := ⟨b, _, none⟩) hl).trans h0, (hb.cell (p := ⟨b, _, none⟩) hl).trans h1, (hb.cell (p := ⟨b, _, none⟩) hl).trans h2, (hb.cell (p := ⟨b, _, none⟩) hl).trans h3⟩
theorem CoreAt.kept {B B' : Nat} {W W' : World} {t : Co.T} {v : Value} (h : CoreAt B W t v) (hb : Below B W W') (hB : B ≤ B') : CoreAt B' W' t v := by
  induction h with
  | mk vs hc ho hn hs hr hk ih => exact .mk vs hc ho hn hs (fun i k e => (hr i k e).kept hb hB) (fun i k e => ih i k e)
theorem CoreAt.open {B : Nat} {W : World} {t : Co.T} {v : Value} (h : CoreAt B W t v) : ∃ p c, v = .agg #[.int .i64 t.op, .int .i64 t.n, .string t.s, .slice p t.ks.length c] ∧ (t.ks.length ≤ c ∧ c ≤ maxLen) ∧ I64 t.op ∧ I64 t.n ∧ t.s.size ≤ 2000000 ∧
    ∀ i k, t.ks[i]? = some k → ∃ vk, RowAt B W p i vk ∧ CoreAt B W k vk := by
  cases h with
  | mk vs hc ho hn hs hr hk => exact ⟨_, _, rfl, hc, ho, hn, hs, fun i k e => ⟨vs i, hr i k e, hk i k e⟩⟩
open Classical in
theorem CoreAt.close {B : Nat} {W : World} {op n : Int} {s : ByteArray} {ks : List Co.T} {p : Option Addr} {c : Nat} (hc : ks.length ≤ c ∧ c ≤ maxLen) (ho : I64 op) (hn : I64 n) (hs : s.size ≤ 2000000)
    (h : ∀ i k, ks[i]? = some k → ∃ vk, RowAt B W p i vk ∧ CoreAt B W k vk) : CoreAt B W (.mk op n s ks) (.agg #[.int .i64 op, .int .i64 n, .string s, .slice p ks.length c]) := by
  have hv : ∀ i, ∃ vk, ∀ k, ks[i]? = some k → RowAt B W p i vk ∧ CoreAt B W k vk := by
    intro i
    cases hi : ks[i]? with
    | none => exact ⟨undef, fun k e => by cases e⟩
    | some k =>
      obtain ⟨vk, h1⟩ := h i k hi
      exact ⟨vk, fun k' e => by cases e; exact h1⟩
  exact .mk (fun i => Classical.choose (hv i)) hc ho hn hs (fun i k e => (Classical.choose_spec (hv i) k e).1) (fun i k e => (Classical.choose_spec (hv i) k e).2)
end Go.Proofs.YtcpobnknmegkmaaGreatDoor
namespace Go.Proofs.YtcpobnknmegkmaaGreatDoor
open Go.RowKit
set_option linter.unusedVariables false
set_option linter.unusedSimpArgs false
/-- The row of a slice of terms, in a block that meets a condition. -/
def RowIn (ok : Nat → Prop) (W : World) (p : Option Addr) (i : Nat) (v : Value) : Prop := ∃ b off x y z u, p = some ⟨b, off, none⟩ ∧ ok b ∧ v = .agg #[x, y, z, u] ∧
  W.cell? ⟨b, off + i * 4, none⟩ = some x ∧ W.cell? ⟨b, off + i * 4 + 1, none⟩ = some y ∧ W.cell? ⟨b, off + i * 4 + 2, none⟩ = some z ∧ W.cell? ⟨b, off + i * 4 + 3, none⟩ = some u
/-- A term by value, all of whose memory lies in blocks that meet a condition. -/
inductive CoreIn (ok : Nat → Prop) (W : World) : Co.T → Value → Prop
  | mk {op n : Int} {s : ByteArray} {ks : List Co.T} {p : Option Addr} {c : Nat} (vs : Nat → Value) (hc : ks.length ≤ c ∧ c ≤ maxLen) (ho : I64 op) (hn : I64 n) (hs : s.size ≤ 2000000)
      (hr : ∀ i k, ks[i]? = some k → RowIn ok W p i (vs i)) (hk : ∀ i k, ks[i]? = some k → CoreIn ok W k (vs i)) : CoreIn ok W (.mk op n s ks) (.agg #[.int .i64 op, .int .i64 n, .string s, .slice p ks.length c])
theorem cell_same {W W' : World} {b o : Nat} {v : Value} (h : W.cell? ⟨b, o, none⟩ = some v) (hb : W'.heap[b]? = W.heap[b]?) : W'.cell? ⟨b, o, none⟩ = some v := by
  unfold World.cell? at *
  simp only at *
  rw [hb]
  exact h
theorem RowIn.keep {ok ok' : Nat → Prop} {W W' : World} {p : Option Addr} {i : Nat} {v : Value} (h : RowIn ok W p i v) (hk : ∀ b, ok b → b < W.heap.size → ok' b ∧ W'.heap[b]? = W.heap[b]?) : RowIn ok' W' p i v := by
  obtain ⟨b, off, x, y, z, u, e, hl, hv, h0, h1, h2, h3⟩ := h
  obtain ⟨h4, h5⟩ := hk b hl (World.block_lt_of_cell? W _ h0)
  exact ⟨b, off, x, y, z, u, e, h4, hv, cell_same h0 h5, cell_same h1 h5, cell_same h2 h5, cell_same h3 h5⟩
theorem CoreIn.keep {ok ok' : Nat → Prop} {W W' : World} {t : Co.T} {v : Value} (h : CoreIn ok W t v) (hk : ∀ b, ok b → b < W.heap.size → ok' b ∧ W'.heap[b]? = W.heap[b]?) : CoreIn ok' W' t v := by
  induction h with
  | mk vs hc ho hn hs hr hkk ih => exact .mk vs hc ho hn hs (fun i k e => (hr i k e).keep hk) (fun i k e => ih i k e)
theorem CoreIn.under {ok : Nat → Prop} {W W' : World} {t : Co.T} {v : Value} (h : CoreIn ok W t v) (hb : Below W.heap.size W W') : CoreIn ok W' t v :=
  h.keep fun b ho hl => ⟨ho, hb.block b hl⟩
theorem CoreIn.wk {ok ok' : Nat → Prop} {W : World} {t : Co.T} {v : Value} (h : CoreIn ok W t v) (hk : ∀ b, ok b → ok' b) : CoreIn ok' W t v :=
  h.keep fun b ho _ => ⟨hk b ho, rfl⟩
theorem CoreIn.old {ok : Nat → Prop} {W : World} {t : Co.T} {v : Value} {n : Nat} (h : CoreIn ok W t v) : CoreIn (fun b => ok b ∨ n ≤ b) W t v := h.wk fun b ho => .inl ho
theorem CoreIn.open {ok : Nat → Prop} {W : World} {t : Co.T} {v : Value} (h : CoreIn ok W t v) : ∃ p c, v = .agg #[.int .i64 t.op, .int .i64 t.n, .string t.s, .slice p t.ks.length c] ∧ (t.ks.length ≤ c ∧ c ≤ maxLen) ∧ I64 t.op ∧ I64 t.n ∧ t.s.size ≤ 2000000 ∧
    ∀ i k, t.ks[i]? = some k → ∃ vk, RowIn ok W p i vk ∧ CoreIn ok W k vk := by
  cases h with
  | mk vs hc ho hn hs hr hk => exact ⟨_, _, rfl, hc, ho, hn, hs, fun i k e => ⟨vs i, hr i k e, hk i k e⟩⟩
open Classical in
theorem CoreIn.close {ok : Nat → Prop} {W : World} {op n : Int} {s : ByteArray} {ks : List Co.T} {p : Option Addr} {c : Nat} (hc : ks.length ≤ c ∧ c ≤ maxLen) (ho : I64 op) (hn : I64 n) (hs : s.size ≤ 2000000)
    (h : ∀ i k, ks[i]? = some k → ∃ vk, RowIn ok W p i vk ∧ CoreIn ok W k vk) : CoreIn ok W (.mk op n s ks) (.agg #[.int .i64 op, .int .i64 n, .string s, .slice p ks.length c]) := by
  have hv : ∀ i, ∃ vk, ∀ k, ks[i]? = some k → RowIn ok W p i vk ∧ CoreIn ok W k vk := by
    intro i
    cases hi : ks[i]? with
    | none => exact ⟨undef, fun k e => by cases e⟩
    | some k =>
      obtain ⟨vk, h1⟩ := h i k hi
      exact ⟨vk, fun k' e => by cases e; exact h1⟩
  exact .mk (fun i => Classical.choose (hv i)) hc ho hn hs (fun i k e => (Classical.choose_spec (hv i) k e).1) (fun i k e => (Classical.choose_spec (hv i) k e).2)
theorem CoreIn.at' {ok : Nat → Prop} {W : World} {t : Co.T} {v : Value} {B : Nat} (h : CoreIn ok W t v) (hB : W.heap.size ≤ B) : CoreAt B W t v := by
  induction h with
  | mk vs hc ho hn hs hr hk ih =>
    refine .mk vs hc ho hn hs (fun i k e => ?_) (fun i k e => ih i k e)
    obtain ⟨b, off, x, y, z, u, e1, hl, hv, h0, h1, h2, h3⟩ := hr i k e
    exact ⟨b, off, x, y, z, u, e1, Nat.lt_of_lt_of_le (World.block_lt_of_cell? W _ h0) hB, hv, h0, h1, h2, h3⟩
theorem CoreAt.in' {B : Nat} {W : World} {t : Co.T} {v : Value} (h : CoreAt B W t v) : CoreIn (fun b => b < B) W t v := by
  induction h with
  | mk vs hc ho hn hs hr hk ih => exact .mk vs hc ho hn hs (fun i k e => hr i k e) (fun i k e => ih i k e)
end Go.Proofs.YtcpobnknmegkmaaGreatDoor
