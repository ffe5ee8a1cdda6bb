/- Proved: what is taken of bytes, in plain functions: the number or the text at a place, the place behind it, whether there is one. -/
import Derived.Test.YtiejoapnljkjdaaGreatDoorWireTakeWalk
import Derived.Test.YtiejoapnljkjdaaGreatDoorLedgerPlain
import Derived.Test.YtiejoapnljkjdaaGreatDoorWireHeld
namespace Go.Proofs.YtiejoapnljkjdaaGreatDoor
open Go.RowKit
set_option linter.unusedVariables false
set_option linter.unusedSimpArgs false
set_option maxRecDepth 100000
def numV (l : List UInt8) (a : Nat) : Int := ((Wire.takeInt l a).getD (0, 0)).1
def numN (l : List UInt8) (a : Nat) : Nat := ((Wire.takeInt l a).getD (0, 0)).2
def numOk (l : List UInt8) (a : Nat) : Bool := (Wire.takeInt l a).isSome
def txtV (l : List UInt8) (a : Nat) : ByteArray := ⟨((Wire.takeText l a 24).getD ([], 0)).1.toArray⟩
def txtN (l : List UInt8) (a : Nat) : Nat := ((Wire.takeText l a 24).getD ([], 0)).2
def txtOk (l : List UInt8) (a : Nat) : Bool := (Wire.takeText l a 24).isSome
theorem takeS_at {l : List UInt8} {a most : Nat} : takeS l (a : Int) most = Wire.takeText l a most := by
  unfold takeS
  rw [if_neg (by omega), Int.toNat_natCast]
theorem takenI_is (l : List UInt8) (a : Nat) : takenI (takeI l a) = .tuple #[.int .i64 (numV l a), .int .i64 (numN l a : Int), .bool (numOk l a)] := by
  rw [takeI_at]
  unfold numV numN numOk takenI
  cases Wire.takeInt l a <;> rfl
theorem takenS_is (l : List UInt8) (a : Nat) : takenS (takeS l a 24) = .tuple #[.string (txtV l a), .int .i64 (txtN l a : Int), .bool (txtOk l a)] := by
  rw [takeS_at]
  unfold txtV txtN txtOk takenS
  cases Wire.takeText l a 24 <;> rfl
theorem numV_in (l : List UInt8) (a : Nat) : -9223372036854775808 ≤ numV l a ∧ numV l a ≤ 9223372036854775807 := by
  unfold numV
  cases h : Wire.takeInt l a with
  | none => exact ⟨by decide, by decide⟩
  | some x =>
    obtain ⟨n, e⟩ := x
    obtain ⟨_, _, _, h1, h2, _⟩ := Wire.takeInt_back h
    exact ⟨h1, h2⟩
theorem txtV_len (l : List UInt8) (a : Nat) : (txtV l a).size ≤ 24 := by
  unfold txtV
  cases h : Wire.takeText l a 24 with
  | none => exact Nat.zero_le _
  | some x =>
    obtain ⟨s, e⟩ := x
    obtain ⟨_, _, _, h1, _⟩ := Wire.takeText_back h
    rw [mk_size]; exact h1

theorem putText_nums' (s : ByteArray) : nums (Wire.vbytes (Wire.zig (s.size : Int))) ++ nums s.data.toList = nums (Wire.putText s.data.toList) := by
  have := putText_nums [] s
  simpa [nums] using this
theorem Held.app {w W w' : World} {l m : List UInt8} {v v' : Value} (A : Held w l v W) (h1 : Owns w.heap.size w' v' (nums l ++ nums m)) (hb : Below w.heap.size W w') : Held w (l ++ m) v' w' :=
  ⟨by unfold nums at *; rw [List.map_append]; exact h1, A.bel.trans hb⟩
/-- An append of a text inside a region that draws its order. -/
theorem step_text {w : World} {ops : Array Oper} {o : Oper} {a : Act} {K : Act → World → Prop} {Q : Exit → Act → World → Prop} {E : Prop} (hgd : o.guard = none) (sl x : Operand)
    (ho : o.op = .call { callee := .builtin .append, args := #[sl, x], argTypes := #[28, 9] })
    (base : Nat) (v : Value) (l : List Int) (hs : a.eval sl = v) (hown : Owns base w v l) (s : ByteArray) (hx : a.eval x = .string s)
    (hbound : l.length + s.size ≤ 140737488355328) (hbase : base ≤ w.heap.size)
    (h : ∀ v' w', Owns base w' v' (l ++ nums s.data.toList) → w.grownBy w' v.ownBlock → K (a.put o.dst v') w') : if Region.wanted o (yielded ops a.tmps) = true then Oper.wp Tryz.prog o a w K Q else E := by
  have hw : Region.wanted o (yielded ops a.tmps) = true := by simp [Region.wanted, hgd]
  rw [if_pos hw]
  obtain ⟨i, hi, hz, hsz, hby⟩ := info_parts info_byte
  obtain ⟨v', w', hr, h2, h3, h4⟩ := Lib.run_append_own_string (P := Tryz.prog) w base 28 9 o.type 5 i Tryz.underlying28 Tryz.underlying9 hi hz hsz hby v l.length _ hown s (by unfold maxLen; omega) hbound hbase
  unfold Oper.wp execOp
  simp only [ho, resolve, invoke, builtin, Sem.run_bind, Sem.run_pure, Result.andThen_ok, List.map_toArray, List.map_cons, List.map_nil, hs, hx, hr]
  refine h v' w' ?_ h3
  show World.ownsRow w' base _ 1 v' (l ++ _).length ((l ++ _).map _)
  rw [List.length_append, List.map_append]
  unfold nums
  rw [← strCells_nums, List.length_map, Array.length_toList]
  exact h2
/-- 'string(b[a:])'. -/
theorem tail_conv {w : World} {p : Option Addr} {c : Nat} {l : List UInt8} (h : Reads w (.slice p l.length c) (nums l)) (a : Nat) (ha : a ≤ l.length) :
    (convert 28 9 (.slice (if c = a then p else Option.map (fun x => x.add a) p) (l.length - a) (c - a))).run Tryz.prog w = .ok (.string ⟨(l.drop a).toArray⟩) w := by
  by_cases hc : c = a
  · have hcap := h.cap
    have hl : l.length = a := by
      have h1 := hcap.2.1
      rw [nums_length] at h1; omega
    rw [if_pos hc, List.drop_eq_nil_of_le (by omega), hl, Nat.sub_self, hc, Nat.sub_self]
    rcases h with ⟨h1, h2⟩ | ⟨b, off, c', h1, h2, h3, h4, h5⟩
    · simp at h1
      rw [h1.1]
      have := (Reads.nil w).conv
      simpa [strOfNums] using this
    · simp at h1
      rw [h1.1]
      have := (show Reads w (.slice (some ⟨b, off, none⟩) 0 0) [] from Or.inr ⟨b, off, 0, rfl, h2, Nat.le_refl _, Nat.zero_le _, fun i hi => by cases hi⟩).conv
      simpa [strOfNums] using this
  · rw [if_neg hc]
    have := (h.from a (by rw [nums_length]; exact ha) hc).conv
    rw [← nums_drop, strOf_bytes, nums_length] at this
    exact this
end Go.Proofs.YtiejoapnljkjdaaGreatDoor
