/- Proved: the closure put of gen.Encode, as a contract: it writes ints behind the bytes that its box holds. -/
import Derived.Test.YtiejoapnljkjdaaGreatDoorGenR
import Derived.Test.YtiejoapnljkjdaaGreatDoorWireNum
import Derived.RangeFuncBox
namespace Go.Proofs.YtiejoapnljkjdaaGreatDoor
open Go.RowKit
set_option linter.unusedVariables false
set_option linter.unusedSimpArgs false
set_option maxRecDepth 100000
/-- A box of bytes, with what it holds: a slice behind it. -/
def BoxOut (B : Nat) (l : List UInt8) (W : World) : Prop := ∃ v, W.heap[B]? = some (.cells #[v] 28 (0, 0)) ∧ Owns (B + 1) W v (nums l)
theorem BoxOut.below {B : Nat} {l : List UInt8} {W W' : World} (h : BoxOut B l W) (b : Below W.heap.size W W') : BoxOut B l W' := by
  obtain ⟨v, h1, h2⟩ := h
  exact ⟨v, box_below b h1, h2.below b⟩
theorem grown_refl (W : World) (r : Option Nat) : W.grownBy W r := ⟨rfl, rfl, rfl, Nat.le_refl _, fun _ _ _ => rfl⟩
theorem grown_of_below {W W' : World} (b : Below W.heap.size W W') (r : Option Nat) : W.grownBy W' r := ⟨b.os, b.tape, b.output, b.size, fun k hk _ => b.block k hk⟩
theorem grown_trans {A B C : World} {r : Option Nat} (h : A.grownBy B r) (k : B.grownBy C r) : A.grownBy C r :=
  ⟨k.os.trans h.os, k.tape.trans h.tape, k.output.trans h.output, Nat.le_trans h.size k.size, fun j hj hr => (k.block j (Nat.lt_of_lt_of_le hj h.size) hr).trans (h.block j hj hr)⟩
theorem below_grown {base B : Nat} {A W W' : World} (h : Below base A W) (g : W.grownBy W' (some B)) (hb : base ≤ B) (hs : base ≤ W.heap.size) : Below base A W' :=
  h.trans ⟨g.os, g.tape, g.output, g.size, fun k hk => g.block k (Nat.lt_of_lt_of_le hk hs) (fun e => by cases e; omega)⟩
/-- What is stored into the box. -/
theorem BoxOut.put {B : Nat} {l m : List UInt8} {W W' : World} {v : Value} (h : BoxOut B l W) (b : Below W.heap.size W W') (o : Owns W.heap.size W' v (nums m)) :
    BoxOut B m (W'.setCell ⟨B, 0, none⟩ v) ∧ W.grownBy (W'.setCell ⟨B, 0, none⟩ v) (some B) := by
  obtain ⟨v0, h1, -⟩ := h
  have hB := lt_of_block h1
  refine ⟨⟨v, one_setCell (box_below b h1), ?_⟩, grown_trans (grown_of_below b _) (grownBy_setCell' _ _ _)⟩
  refine Owns.mono (World.ownsRow.kept o (grownBy_setCell' _ _ _) (.inr ?_)) (by omega)
  intro e
  have := o.block B e
  omega
def putAll (ns : List Int) : List UInt8 := ns.flatMap Wire.putInt
theorem putAll_snoc (ns : List Int) (i : Nat) (n : Int) (h : ns[i]? = some n) : putAll (ns.take (i + 1)) = putAll (ns.take i) ++ Wire.putInt n := by
  rw [take_snoc ns i n h]; unfold putAll; rw [List.flatMap_append]; simp
theorem putAll_len (ns : List Int) (h : ∀ n ∈ ns, -9223372036854775808 ≤ n ∧ n ≤ 9223372036854775807) : (putAll ns).length ≤ 10 * ns.length := by
  induction ns with
  | nil => simp [putAll]
  | cons a t ih =>
    have h1 := ih (fun n hn => h n (List.mem_cons_of_mem _ hn))
    have h2 := putInt_len a (h a (List.mem_cons_self ..)).1 (h a (List.mem_cons_self ..)).2
    unfold putAll at *
    rw [List.flatMap_cons, List.length_append, List.length_cons]
    omega
/-- Between two rounds of put. -/
structure PutSt (w : World) (B sb : Nat) (ns : List Int) (l : List UInt8) (i : Nat) (W : World) : Prop where
  out : BoxOut B (l ++ putAll (ns.take i)) W
  gr : w.grownBy W (some B)
def PutPost (B : Nat) (l : List UInt8) (w : World) (e : Ending) (w' : World) : Prop := (∃ v, e = .returned v) ∧ BoxOut B l w' ∧ w.grownBy w' (some B)
set_option maxHeartbeats 2000000 in
theorem put_any (B sb : Nat) (ns : List Int) (l : List UInt8) (w : World) (hB : BoxOut B l w) (hsb : sb ≠ B) (hs : ∀ (i : Nat) n, ns[i]? = some n → w.cell? ⟨sb, i, none⟩ = some (.int .i64 n))
    (hn : ∀ n ∈ ns, -9223372036854775808 ≤ n ∧ n ≤ 9223372036854775807) (hl : l.length + 10 * ns.length ≤ 140737488355300) :
    Calls Tryz.prog 19 #[.slice (some ⟨sb, 0, none⟩) ns.length ns.length, .pointer (some ⟨B, 0, none⟩)] w (PutPost B (l ++ putAll ns) w) := by
  have HS := hid' hs
  have HN := hid' hn
  have HB := hid' (show PutSt w B sb ns l 0 w from ⟨by rw [List.take_zero]; unfold putAll; rw [List.flatMap_nil, List.append_nil]; exact hB, grown_refl _ _⟩)
  have HL := hid' hl
  have hnl : (ns.length : Int) ≤ 9223372036854775807 := by omega
  clear hB hs hn hl
  go_enter Tryz.func19, Tryz.ntmps19
  go_wp2_with fail
  go_loopw [7] (fun iv wr => ∃ i : Nat, iv = .int .i64 (i : Int) ∧ i ≤ ns.length ∧ Hid (PutSt w B sb ns l i wr)) (fun iv _ => ns.length - (intOf iv).toNat)
  case atStart => exact ⟨0, rfl, Nat.zero_le _, HB⟩
  case round =>
    obtain ⟨i, rfl, hi, HR⟩ := hrel
    by_cases hin : i < ns.length
    · obtain ⟨n, hx⟩ : ∃ n, ns[i]? = some n := ⟨_, List.getElem?_eq_getElem hin⟩
      have j1 : (0 : Int) ≤ (i : Int) := by omega
      have j2 : (i : Int) < (ns.length : Int) := by omega
      have wi : IntKind.i64.wrap ((i : Int) + 1) = (i : Int) + 1 := IntWalk.i64_in _ (by omega)
      have g8 : decide (i < ns.length) = true := decide_eq_true hin
      have y0 : wr.cell? ⟨sb, i, none⟩ = some (.int .i64 n) := by
        have h0 := HS.out i n hx
        have hlt := World.block_lt_of_cell? _ _ h0
        exact (World.cell?_of_block (HR.out.gr.block sb hlt (fun e => hsb (by cases e; rfl)))).trans h0
      obtain ⟨v, hv, ho⟩ := HR.out.out
      have x0 := bcells hv 0 _ rfl
      have hf : wr.frozen? ⟨B, 0, none⟩ = false := by simp [World.frozen?, hv]
      have hnb := HN.out n (List.mem_of_getElem? hx)
      have hlen : (l ++ putAll (ns.take i)).length ≤ 140737488355290 := by
        have := putAll_len (ns.take i) (fun n hn => HN.out n (List.mem_of_mem_take hn))
        have := HL.out
        rw [List.length_append, List.length_take] at *
        omega
      have HP := hid' (putInt_any v (nums (l ++ putAll (ns.take i))) n wr ho.reads (by rw [nums_length]; omega) hnb.1 hnb.2)
      have HX := hid' hx
      have HI := hid' hin
      clear hx hin hv ho hnb hlen
      go_wp2_with fail
      refine HP.out.mono ?_
      rintro e w2 ⟨v2, rfl, o2, b2⟩
      rw [putInt_nums, List.append_assoc, ← putAll_snoc ns i n HX.out] at o2
      obtain ⟨q1, q2⟩ := HR.out.out.put b2 o2
      have HR2 := hid' (show PutSt w B sb ns l (i + 1) (w2.setCell ⟨B, 0, none⟩ v2) from ⟨q1, grown_trans HR.out.gr q2⟩)
      obtain ⟨p2, c2, rfl⟩ : ∃ p c, v2 = .slice p (nums (l ++ putAll (ns.take (i + 1)))).length c := by
        rcases o2.shape with ⟨rfl, hz⟩ | ⟨g, cap, hv, _⟩
        · exact ⟨none, 0, by rw [hz]; rfl⟩
        · exact ⟨_, _, hv⟩
      have z0 := keep_all b2 _ _ x0
      have z1 : w2.frozen? ⟨B, 0, none⟩ = false := (World.frozen?_of_block (b2.block B (World.block_lt_of_cell? _ _ x0))).trans hf
      clear q1 q2 o2 b2 x0 hf y0
      go_wp2_with fail
      go_roundw
      case rel => exact ⟨i + 1, by go_num, by have := HI.out; omega, HR2⟩
      case measure => have := HI.out; simp [intOf]; omega
    · obtain rfl : i = ns.length := by omega
      have g8 : decide (ns.length < ns.length) = false := by simp
      clear hin
      go_wp2_with fail
      refine bodyPost_end (results_none rfl _ _ _) rfl ?_
      refine ⟨⟨_, rfl⟩, ?_, HR.out.gr⟩
      have := HR.out.out
      rw [List.take_length] at this
      exact this
end Go.Proofs.YtiejoapnljkjdaaGreatDoor
