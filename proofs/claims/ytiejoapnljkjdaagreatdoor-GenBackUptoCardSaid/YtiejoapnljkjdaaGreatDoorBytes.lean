/- Slices of bytes that a call owns: make, append, conversion to a string; texts as numbers. General helpers over this seat's program. -/
import Derived.Test.YtiejoapnljkjdaaGreatDoorBase
import Derived.WalkKit
import Derived.WalkLawsBesides
import Derived.Below
import Derived.Laws.AppendOwn
import Derived.Laws.MakeOwn
import Derived.Laws.BytesArg
import Derived.Lib.AppendStr
import Derived.Lib.BufferRead
import Derived.Laws.AppendOwnNone
import Derived.Deep.OwnRows
namespace Go.Proofs.YtiejoapnljkjdaaGreatDoor
open Go.RowKit
set_option linter.unusedVariables false

theorem lt_of_block {w : World} {b : Nat} {o : Obj} (h : w.heap[b]? = some o) : b < w.heap.size := by
  rcases Nat.lt_or_ge b w.heap.size with h' | h'
  · exact h'
  · rw [Array.getElem?_eq_none h'] at h
    simp at h
theorem info_byte : (Tryz.prog.info? 5).map (fun i => (i.zero, i.size, i.bytes)) = some (some (.int .u8 0), 1, 1) := by kernel_rfl
theorem madeCells_one (z : Value) (n : Nat) : madeCells #[z] n = Array.replicate n z := by
  apply Array.ext (by simp [madeCells])
  intro i h1 h2
  simp [madeCells, Nat.mod_one]
theorem make_bytes (w : World) (l c : Nat) (hl : l ≤ c) (hn : c ≤ 281474976710656) :
    (Instr.makeSlice 28 (.int .i64 (l : Int)) (.int .i64 (c : Int))).run Tryz.prog w = .ok (.slice (some ⟨w.heap.size, 0, none⟩) l c) (w.alloc (.cells (Array.replicate c (.int .u8 0)) 5)) := by
  obtain ⟨i, hi, hz, hs, hb⟩ := info_parts info_byte
  have := run_make (P := Tryz.prog) w 28 5 i (.int .u8 0) Tryz.underlying28 hi hz .i64 .i64 (l : Int) (c : Int) (by omega) (by omega) (by rw [hb]; omega) (by omega)
  rw [this, hs]
  simp only [Int.toNat_natCast, Nat.mul_one]
  rw [← madeCells_one]
  rfl
/-- The slice v, the call's own from block base on, holds the bytes l. -/
def Owns (base : Nat) (w : World) (v : Value) (l : List Int) : Prop := w.ownsRow base 5 1 v l.length (l.map (.int .u8))
theorem Owns.nil (base : Nat) (w : World) : Owns base w (.slice none 0 0) [] := w.ownsRow_nil base _ 1
theorem Owns.made {base : Nat} {w : World} (hb : base ≤ w.heap.size) (cur : Array Value) (hm : cur.size ≤ maxLen) : Owns base (w.alloc (.cells cur 5)) (.slice (some ⟨w.heap.size, 0, none⟩) 0 cur.size) [] :=
  w.ownsRow_made cur cur.size hb hm (by omega)
theorem Owns.alloc {base : Nat} {w : World} {v : Value} {l : List Int} (h : Owns base w v l) (o : Obj) : Owns base (w.alloc o) v l := World.ownsRow.alloc h o
theorem Owns.drew {base : Nat} {w : World} {v : Value} {l : List Int} (h : Owns base w v l) : Owns base w.drew v l := World.ownsRow.drew h
theorem Owns.drewN {base : Nat} {w : World} {v : Value} {l : List Int} (h : Owns base w v l) (n : Nat) : Owns base (w.drewN n) v l := h
theorem Owns.below {base : Nat} {w w' : World} {v : Value} {l : List Int} (h : Owns base w v l) (hb : Below w.heap.size w w') : Owns base w' v l := by
  obtain ⟨h1, h2⟩ := h
  refine ⟨h1, ?_⟩
  rcases h2 with h2 | ⟨g, cap, cur, hv, hg, hh, r⟩
  · exact Or.inl h2
  · have hlt : g < w.heap.size := by
      rcases Nat.lt_or_ge g w.heap.size with h | h
      · exact h
      · rw [Array.getElem?_eq_none h] at hh
        simp at hh
    exact Or.inr ⟨g, cap, cur, hv, hg, (hb.block g hlt).trans hh, r⟩
theorem Owns.mono {base base' : Nat} {w : World} {v : Value} {l : List Int} (h : Owns base w v l) (hb : base' ≤ base) : Owns base' w v l := by
  obtain ⟨h1, h2⟩ := h
  refine ⟨h1, ?_⟩
  rcases h2 with h2 | ⟨g, cap, cur, hv, hg, r⟩
  · exact Or.inl h2
  · exact Or.inr ⟨g, cap, cur, hv, by omega, r⟩
theorem Owns.shape {base : Nat} {w : World} {v : Value} {l : List Int} (h : Owns base w v l) :
    (v = .slice none 0 0 ∧ l = []) ∨ ∃ g cap, v = .slice (some ⟨g, 0, none⟩) l.length cap ∧ base ≤ g ∧ g < w.heap.size ∧ l.length ≤ cap ∧ cap ≤ maxLen ∧ (∀ i, i < l.length → w.cell? ⟨g, i, none⟩ = some (.int .u8 (l.getD i 0))) ∧ ∀ i, w.frozen? ⟨g, i, none⟩ = false := by
  have h' := h
  obtain ⟨h1, h2⟩ := h
  rcases h2 with ⟨hv, h0⟩ | ⟨g, cap, cur, hv, hg, hh, hc, hm, r⟩
  · exact Or.inl ⟨hv, List.length_eq_zero_iff.1 h0⟩
  · have hlt : g < w.heap.size := by
      rcases Nat.lt_or_ge g w.heap.size with h | h
      · exact h
      · rw [Array.getElem?_eq_none h] at hh
        simp at hh
    refine Or.inr ⟨g, cap, hv, hg, hlt, hc, hm, fun i hi => ?_, fun i => frozen_of_row _ _ _ _ _ hh⟩
    subst hv
    rw [World.ownsRow.cellAt h' i (by omega)]
    simp [hi]
/-- 'string(b)'. -/
theorem Owns.conv {base : Nat} {w : World} {v : Value} {l : List Int} (h : Owns base w v l) : (convert 28 9 v).run Tryz.prog w = .ok (.string (strOfNums l)) w := by
  rcases h.shape with ⟨rfl, rfl⟩ | ⟨g, cap, rfl, _, _, _, _, hc, _⟩
  · exact Lib.run_convert_nil_bytes w 28 9 5 0 Tryz.underlying28 Tryz.underlying5 Tryz.underlying9
  · exact run_convert_bytes_arg w 28 5 Tryz.underlying28 Tryz.underlying5 g 0 l.length cap l rfl (fun i hi => by rw [Nat.zero_add]; exact hc i hi) 9 Tryz.underlying9
/-- 'append(v, x...)' where x is a slice of bytes. -/
theorem append_bytes {w : World} {ops : Array Oper} {rest : List Oper} {o : Oper} {a : Act} {Q : Exit → Act → World → Prop} (hgd : o.guard = none) (s x : Operand)
    (ho : o.op = .call { callee := .builtin .append, args := #[s, x], argTypes := #[28, 28] })
    (base : Nat) (v : Value) (l : List Int) (hs : a.eval s = v) (hown : Owns base w v l)
    (b off m c : Nat) (news : List Int) (hx : a.eval x = .slice (some ⟨b, off, none⟩) m c) (hm : news.length = m) (hnews : ∀ i, i < m → w.cell? ⟨b, off + i, none⟩ = some (.int .u8 (news.getD i 0)))
    (hbound : l.length + m ≤ 140737488355328) (hbase : base ≤ w.heap.size)
    (h : ∀ v' w', Owns base w' v' (l ++ news) → w.grownBy w' v.ownBlock → wpList Tryz.prog ops Q rest (a.put o.dst v') w') : wpList Tryz.prog ops Q (o :: rest) a w := by
  obtain ⟨i, hi, hz, hsz, hby⟩ := info_parts info_byte
  subst hm
  refine wpList_append_own w hgd s x 28 ho base 5 i (.int .u8 0) 1 1 Tryz.underlying28 hi hz hsz hby rfl (by decide) v l.length _ hs hown ⟨b, off, none⟩ news.length c (news.map (.int .u8)) hx (by simp)
    (fun j u hj => ?_) (fun u hu => ?_) (by unfold maxLen; omega) (by omega) hbase (fun v' w' h1 h2 _ => h v' w' ?_ h2)
  · have hjl : j < news.length := by
      have := (List.getElem?_eq_some_iff.1 hj).1
      simpa using this
    have hadd : (⟨b, off, none⟩ : Addr).add j = ⟨b, off + j, none⟩ := by unfold Addr.add; split <;> simp_all
    rw [hadd, hnews j hjl]
    simp [hjl] at hj
    simp [← hj, hjl]
  · simp only [List.mem_map] at hu
    obtain ⟨n, _, rfl⟩ := hu
    rfl
  · show World.ownsRow w' base _ 1 v' (l ++ news).length ((l ++ news).map _)
    rw [List.length_append, List.map_append]
    exact h1
/-- The same inside a region that draws its order. -/
theorem step_bytes {w : World} {ops : Array Oper} {o : Oper} {a : Act} {K : Act → World → Prop} {Q : Exit → Act → World → Prop} {E : Prop} (hgd : o.guard = none) (s x : Operand)
    (ho : o.op = .call { callee := .builtin .append, args := #[s, x], argTypes := #[28, 28] })
    (base : Nat) (v : Value) (l : List Int) (hs : a.eval s = v) (hown : Owns base w v l)
    (b off m c : Nat) (news : List Int) (hx : a.eval x = .slice (some ⟨b, off, none⟩) m c) (hm : news.length = m) (hnews : ∀ i, i < m → w.cell? ⟨b, off + i, none⟩ = some (.int .u8 (news.getD i 0)))
    (hbound : l.length + m ≤ 140737488355328) (hbase : base ≤ w.heap.size)
    (h : ∀ v' w', Owns base w' v' (l ++ news) → w.grownBy w' v.ownBlock → K (a.put o.dst v') w') : if Region.wanted o (yielded ops a.tmps) = true then Oper.wp Tryz.prog o a w K Q else E := by
  have hw : Region.wanted o (yielded ops a.tmps) = true := by simp [Region.wanted, hgd]
  rw [if_pos hw]
  obtain ⟨i, hi, hz, hsz, hby⟩ := info_parts info_byte
  subst hm
  refine wp_append_own w s x 28 ho base 5 i (.int .u8 0) 1 1 Tryz.underlying28 hi hz hsz hby rfl (by decide) v l.length _ hs hown ⟨b, off, none⟩ news.length c (news.map (.int .u8)) hx (by simp)
    (fun j u hj => ?_) (fun u hu => ?_) (by unfold maxLen; omega) (by omega) hbase (fun v' w' h1 h2 _ => h v' w' ?_ h2)
  · have hjl : j < news.length := by
      have := (List.getElem?_eq_some_iff.1 hj).1
      simpa using this
    have hadd : (⟨b, off, none⟩ : Addr).add j = ⟨b, off + j, none⟩ := by unfold Addr.add; split <;> simp_all
    rw [hadd, hnews j hjl]
    simp [hjl] at hj
    simp [← hj, hjl]
  · simp only [List.mem_map] at hu
    obtain ⟨n, _, rfl⟩ := hu
    rfl
  · show World.ownsRow w' base _ 1 v' (l ++ news).length ((l ++ news).map _)
    rw [List.length_append, List.map_append]
    exact h1
theorem strCells_nums (s : ByteArray) : Lib.strCells s = (s.data.toList.map fun c => (c.toNat : Int)).map (.int .u8) := by
  simp [Lib.strCells]
/-- 'append(v, s...)' where s is a string. -/
theorem append_text {w : World} {ops : Array Oper} {rest : List Oper} {o : Oper} {a : Act} {Q : Exit → Act → World → Prop} (hgd : o.guard = none) (sl x : Operand)
    (ho : o.op = .call { callee := .builtin .append, args := #[sl, x], argTypes := #[28, 9] })
    (base : Nat) (v : Value) (l : List Int) (hs : a.eval sl = v) (hown : Owns base w v l) (s : ByteArray) (hx : a.eval x = .string s)
    (hbound : l.length + s.size ≤ 140737488355328) (hbase : base ≤ w.heap.size)
    (h : ∀ v' w', Owns base w' v' (l ++ s.data.toList.map fun c => (c.toNat : Int)) → w.grownBy w' v.ownBlock → wpList Tryz.prog ops Q rest (a.put o.dst v') w') : wpList Tryz.prog ops Q (o :: rest) a w := by
  obtain ⟨i, hi, hz, hsz, hby⟩ := info_parts info_byte
  refine Lib.wpList_append_own_string w hgd sl x 28 9 ho base 5 i Tryz.underlying28 Tryz.underlying9 hi hz hsz hby v l.length _ hs hown s hx (by unfold maxLen; omega) hbound hbase
    (fun v' w' h1 h2 _ => h v' w' ?_ h2)
  show World.ownsRow w' base _ 1 v' (l ++ _).length ((l ++ _).map _)
  rw [List.length_append, List.map_append, ← strCells_nums, List.length_map, Array.length_toList]
  exact h1
theorem Owns.block {base : Nat} {w : World} {v : Value} {l : List Int} (h : Owns base w v l) : ∀ k, v.ownBlock = some k → base ≤ k := fun k hk => (World.ownsRow.lt h k hk).1
theorem Below.owned {base B : Nat} {a w w' : World} {v : Value} {l : List Int} (h : Below B a w) (hg : w.grownBy w' v.ownBlock) (ho : Owns base w v l) (hB : B ≤ w.heap.size) (hBb : B ≤ base) : Below B a w' :=
  h.grown hg hB fun k hk => by have := ho.block k hk; omega
theorem grown_trans' {a b c : World} {row : Option Nat} (h : a.grownBy b row) (k : b.grownBy c row) : a.grownBy c row :=
  ⟨k.os.trans h.os, k.tape.trans h.tape, k.output.trans h.output, Nat.le_trans h.size k.size, fun i hi hn => (k.block i (Nat.lt_of_lt_of_le hi h.size) hn).trans (h.block i hi hn)⟩
/-- A slice of bytes that can be read as a list. -/
def Reads (w : World) (v : Value) (l : List Int) : Prop :=
  (v = .slice none 0 0 ∧ l = []) ∨ ∃ b off c, v = .slice (some ⟨b, off, none⟩) l.length c ∧ b < w.heap.size ∧ l.length ≤ c ∧ c ≤ maxLen ∧ ∀ i, i < l.length → w.cell? ⟨b, off + i, none⟩ = some (.int .u8 (l.getD i 0))
theorem Owns.reads {base : Nat} {w : World} {v : Value} {l : List Int} (h : Owns base w v l) : Reads w v l := by
  rcases h.shape with h | ⟨g, cap, hv, _, hl, hc, hm, hcell, _⟩
  · exact Or.inl h
  · exact Or.inr ⟨g, 0, cap, hv, hl, hc, hm, fun i hi => by rw [Nat.zero_add]; exact hcell i hi⟩
theorem Reads.below {w w' : World} {v : Value} {l : List Int} (h : Reads w v l) (hb : Below w.heap.size w w') : Reads w' v l := by
  rcases h with h | ⟨b, off, c, hv, hl, hc, hm, hcell⟩
  · exact Or.inl h
  · exact Or.inr ⟨b, off, c, hv, Nat.lt_of_lt_of_le hl hb.size, hc, hm, fun i hi => (hb.cell (p := ⟨b, off + i, none⟩) hl).trans (hcell i hi)⟩
theorem Reads.alloc {w : World} {v : Value} {l : List Int} (h : Reads w v l) (o : Obj) : Reads (w.alloc o) v l := h.below ((Below.refl _ _).alloc (Nat.le_refl _) o)
theorem Reads.len {w : World} {v : Value} {l : List Int} (h : Reads w v l) : ∃ a c, v = .slice a l.length c := by
  rcases h with ⟨rfl, rfl⟩ | ⟨b, off, c, hv, _⟩
  · exact ⟨none, 0, rfl⟩
  · exact ⟨_, c, hv⟩
theorem Reads.conv {w : World} {v : Value} {l : List Int} (h : Reads w v l) : (convert 28 9 v).run Tryz.prog w = .ok (.string (strOfNums l)) w := by
  rcases h with ⟨rfl, rfl⟩ | ⟨b, off, c, rfl, _, _, _, hcell⟩
  · exact Lib.run_convert_nil_bytes w 28 9 5 0 Tryz.underlying28 Tryz.underlying5 Tryz.underlying9
  · exact run_convert_bytes_arg w 28 5 Tryz.underlying28 Tryz.underlying5 b off l.length c l rfl hcell 9 Tryz.underlying9
/-- 'append(v, x...)' where x can be read as the bytes news. -/
theorem append_reads {w : World} {ops : Array Oper} {rest : List Oper} {o : Oper} {a : Act} {Q : Exit → Act → World → Prop} (hgd : o.guard = none) (s x : Operand)
    (ho : o.op = .call { callee := .builtin .append, args := #[s, x], argTypes := #[28, 28] })
    (base : Nat) (v : Value) (l : List Int) (hs : a.eval s = v) (hown : Owns base w v l) (news : List Int) (hr : Reads w (a.eval x) news)
    (hbound : l.length + news.length ≤ 140737488355328) (hbase : base ≤ w.heap.size)
    (h : ∀ v' w', Owns base w' v' (l ++ news) → Below base w w' → w.grownBy w' v.ownBlock → wpList Tryz.prog ops Q rest (a.put o.dst v') w') : wpList Tryz.prog ops Q (o :: rest) a w := by
  rcases hr with ⟨hx, rfl⟩ | ⟨b, off, c, hx, hb, hc, hm, hcell⟩
  · obtain ⟨i, hi, hz, hsz, hby⟩ := info_parts info_byte
    refine wpList_append_own_none hgd s x 28 ho base 5 i 1 Tryz.underlying28 hi v l.length _ hs hown hx (h v w (by rw [List.append_nil]; exact hown) (Below.refl _ _) (World.grownBy.refl _ _))
  · exact append_bytes hgd s x ho base v l hs hown b off news.length c news hx rfl hcell hbound hbase fun v' w' h1 h2 => h v' w' h1 (Below.owned (Below.refl base w) h2 hown hbase (Nat.le_refl _)) h2
/-- 'append(v, x)', behind the block that the one byte is laid in. -/
theorem append_one {w : World} {ops : Array Oper} {rest : List Oper} {o : Oper} {a : Act} {Q : Exit → Act → World → Prop} (hgd : o.guard = none) (s x : Operand)
    (ho : o.op = .call { callee := .builtin .append, args := #[s, x], argTypes := #[28, 28] })
    (base : Nat) (v : Value) (l : List Int) (hs : a.eval s = v) (hown : Owns base w v l) (n : Int) (hx : a.eval x = .slice (some ⟨w.heap.size, 0, none⟩) 1 1)
    (hbound : l.length + 1 ≤ 140737488355328) (hbase : base ≤ w.heap.size)
    (h : ∀ v' w', Owns base w' v' (l ++ [n]) → Below base w w' → w.grownBy w' v.ownBlock → wpList Tryz.prog ops Q rest (a.put o.dst v') w') :
    wpList Tryz.prog ops Q (o :: rest) a (w.alloc (.cells #[.int .u8 n] 5)) := by
  refine append_bytes hgd s x ho base v l hs (hown.alloc _) w.heap.size 0 1 1 [n] hx rfl (fun i hi => ?_) hbound (by simp; omega) fun v' w' h1 h2 => ?_
  · obtain rfl : i = 0 := by omega
    rw [World.cell?_alloc_new]
    rfl
  · have hg := grown_trans' (World.grownBy_alloc w (.cells #[.int .u8 n] 5) v.ownBlock) h2
    exact h v' w' h1 (Below.owned (Below.refl base w) hg hown hbase (Nat.le_refl _)) hg
end Go.Proofs.YtiejoapnljkjdaaGreatDoor
