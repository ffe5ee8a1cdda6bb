/- The program's Sum: SHA-256 of texts, one behind the other. -/
import Derived.Test.YtmddaomchhigbaaGreatDoorMacNumber
import Derived.Test.YtmddaomchhigbaaGreatDoorShelf
import Derived.Laws.AppendOwn
import Derived.Laws.BytesArg
namespace Go.Proofs.YtmddaomchhigbaaGreatDoor
open Go.RowKit
set_option linter.unusedVariables false

/-- Texts, one behind the other. -/
def cat (xs : List ByteArray) : ByteArray := ⟨(xs.flatMap (·.data.toList)).toArray⟩
/-- A slice of strings that reads as a list. -/
def PartsAre (w : World) (v : Value) (xs : List ByteArray) : Prop :=
  (∃ a c, v = .slice a 0 c ∧ xs = [] ∧ (a = none → c = 0)) ∨
  ∃ bk o c, v = .slice (some ⟨bk, o, none⟩) xs.length c ∧ (∀ (j : Nat) x, xs[j]? = some x → w.cell? ⟨bk, o + j, none⟩ = some (.string x)) ∧ bk < w.heap.size ∧ xs.length ≤ c ∧ xs.length ≤ 140737488355328
theorem join_empty : ∀ (l : List (List UInt8)), Lib.join l [] = l.flatten
  | [] => rfl
  | [x] => by simp [Lib.join, List.intercalate]
  | x :: y :: r => by
    have ih := join_empty (y :: r)
    simp only [Lib.join, List.intercalate, List.intersperse] at ih ⊢
    simp only [List.flatten_cons, List.nil_append] at ih ⊢
    rw [ih]
theorem join_any (w : World) (v : Value) (xs : List ByteArray) (hp : PartsAre w v xs) (hlen : (cat xs).size ≤ 140737488355328) :
    Calls Tryz.prog 73 #[v, .string ⟨#[]⟩] w fun e w' => e = .returned (.string (cat xs)) ∧ Below w.heap.size w w' := by
  rcases hp with ⟨a, c, rfl, rfl, _⟩ | ⟨bk, o, c, rfl, hc, hb, h1, h2⟩
  · exact (Tryz.strings_Join_none a c ⟨#[]⟩ w).mono fun e w' ⟨he, hw⟩ => ⟨he, hw ▸ Below.refl _ _⟩
  · have e : Lib.join (xs.map (·.data.toList)) (⟨#[]⟩ : ByteArray).data.toList = xs.flatMap (·.data.toList) := by
      rw [show (⟨#[]⟩ : ByteArray).data.toList = [] from rfl, join_empty, List.flatMap_def]
    have := Tryz.strings_Join bk o c xs ⟨#[]⟩ w hc hb h2 h1 (by rw [e]; exact hlen)
    rw [e] at this
    exact this
theorem zeros_repeat (n : Nat) : (Lib.repeatL (⟨#[0]⟩ : ByteArray).data.toList n).toArray = Array.replicate n 0 := by
  have h : ∀ n, Lib.repeatL [(0 : UInt8)] n = List.replicate n 0 := by
    intro n
    induction n with
    | zero => rfl
    | succ n ih => rw [Lib.repeatL, ih, List.replicate_succ]; rfl
  rw [show (⟨#[0]⟩ : ByteArray).data.toList = [(0 : UInt8)] from rfl, h, List.toArray_replicate]
theorem nums_append (a b : ByteArray) : Sha.nums (a ++ b) = Sha.nums a ++ Sha.nums b := by
  rw [Sha.nums, ByteArray.data_append, Array.toList_append, List.map_append]
  rfl
theorem nums_strOfNums (l : List Int) (h : ∀ x ∈ l, 0 ≤ x ∧ x ≤ 255) : Sha.nums (strOfNums l) = l := by
  rw [Sha.nums, strOfNums_data, List.map_map]
  conv => rhs; rw [← List.map_id l]
  apply List.map_congr_left
  intro x hx
  have := h x hx
  show (((UInt8.ofNat x.toNat).toNat : Nat) : Int) = x
  rw [UInt8.toNat_ofNat_of_lt' (by show x.toNat < 256; omega)]
  omega
theorem be8_byte (n : Int) : ∀ x ∈ Sha.be8 n, 0 ≤ x ∧ x ≤ 255 := by
  intro x hx
  simp only [Sha.be8, List.mem_cons, List.not_mem_nil, or_false] at hx
  rcases hx with rfl | rfl | rfl | rfl | rfl | rfl | rfl | rfl <;> omega
theorem conv_row {w : World} {b n c : Nat} {f : Nat → Value} (r : w.rowIs b 5 n f) {xs : List Int} (hx : xs.length = n) (hf : ∀ i, i < n → f i = .int .u8 (xs.getD i 0)) :
    (convert 24 9 (.slice (some ⟨b, 0, none⟩) n c)).run Tryz.prog w = .ok (.string (strOfNums xs)) w := by
  refine run_convert_bytes_arg w 24 5 Tryz.underlying24 Tryz.underlying5 b 0 n c xs hx (fun i hi => ?_) 9 Tryz.underlying9
  rw [Nat.zero_add, r.cell hi, hf i hi]
theorem be8_at (n : Int) (i : Nat) (hi : i < 8) : Value.int .u8 (byteAt n 8 i) = .int .u8 ((Sha.be8 n).getD i 0) := by
  match i, hi with
  | 0, _ | 1, _ | 2, _ | 3, _ | 4, _ | 5, _ | 6, _ | 7, _ => simp [byteAt, Sha.be8]
theorem be4_at (n : Int) (i : Nat) (hi : i < 4) : Value.int .u8 (byteAt n 4 i) = .int .u8 ((Sha.be4 n).getD i 0) := by
  match i, hi with
  | 0, _ | 1, _ | 2, _ | 3, _ => simp [byteAt, Sha.be4]
theorem pad_nums (s : ByteArray) (N : Nat) (h : Sha.nought s.size = N) :
    Sha.nums (s ++ (({ data := #[128] } : ByteArray) ++ { data := Array.replicate N 0 } ++ strOfNums (Sha.be8 (8 * (s.size : Int))))) = Sha.padded (Sha.nums s) := by
  rw [nums_append, nums_append, nums_append, nums_strOfNums _ (be8_byte _), Sha.padded, Sha.nums_length, h]
  have e1 : Sha.nums ({ data := #[128] } : ByteArray) = [128] := rfl
  have e2 : Sha.nums ({ data := Array.replicate N 0 } : ByteArray) = List.replicate N 0 := by
    rw [Sha.nums, Array.toList_replicate, List.map_replicate]
    rfl
  rw [e1, e2]
  simp
structure SumAt (w wr : World) (Bh : Nat) (L : List Int) (n : Nat) (q : ByteArray) : Prop where
  bel : Below w.heap.size w wr
  cells : wr.heap[Bh]? = some (.cells (eight (Sha.st L n)) 136 (0, 0))
  rest : Sha.nums q = L.drop (64 * n)
  le : 64 * n ≤ L.length
theorem SumAt.size {w wr : World} {Bh : Nat} {L : List Int} {n : Nat} {q : ByteArray} (S : SumAt w wr Bh L n q) : q.size + 64 * n = L.length := by
  have h := congrArg List.length S.rest
  rw [Sha.nums_length, List.length_drop] at h
  have := S.le
  omega
theorem SumAt.lt {w wr : World} {Bh : Nat} {L : List Int} {n : Nat} {q : ByteArray} (S : SumAt w wr Bh L n q) : Bh < wr.heap.size := by
  rcases Nat.lt_or_ge Bh wr.heap.size with h | h
  · exact h
  · have := S.cells
    rw [Array.getElem?_eq_none h] at this
    simp at this
theorem nums_extract (q : ByteArray) (i j : Nat) : Sha.nums (q.extract i j) = ((Sha.nums q).drop i).take (j - i) := by
  rw [Sha.nums, Sha.nums, Lib.extract_data, List.map_take, List.map_drop]
theorem mix_next {w wr : World} {Bh : Nat} {L : List Int} {n : Nat} {q : ByteArray} (S : SumAt w wr Bh L n q) (hq : 64 ≤ q.size) :
    Sha.mixs (fun i => (Sha.nums (q.extract 0 64)).getD i 0) (Sha.st L n) = Sha.st L (n + 1) := by
  rw [Sha.st]
  refine Sha.mixs_congr _ _ _ fun i hi => ?_
  rw [nums_extract, S.rest, List.drop_zero, List.getD_eq_getElem?_getD, List.getElem?_take, if_pos (by omega), List.getElem?_drop, List.getD_eq_getElem?_getD]
theorem SumAt.step {w wr : World} {Bh : Nat} {L : List Int} {n : Nat} {q : ByteArray} (S : SumAt w wr Bh L n q) (hB : w.heap.size ≤ Bh) (hq : 64 ≤ q.size) :
    SumAt w (wr.setRow Bh (eight (Sha.st L (n + 1)))) Bh L (n + 1) (q.extract 64 q.size) := by
  refine ⟨below_setRow S.bel hB _, setRow_heap _ _ _ _ _ _ S.cells, ?_, ?_⟩
  · rw [nums_extract, S.rest, List.drop_drop, show 64 * n + 64 = 64 * (n + 1) by omega, List.take_of_length_le]
    rw [List.length_drop]
    have := S.size
    omega
  · have := S.size
    omega
theorem empty_of {q : ByteArray} (h : q.size = 0) : q = ⟨#[]⟩ := by
  have : q.data = #[] := Array.eq_empty_of_size_eq_zero h
  cases q
  simp_all
theorem nonempty_of {q : ByteArray} (h : 64 ≤ q.size) : q.toList.isEmpty = false := by
  have h1 : q.toList.length = q.size := by rw [Lib.toList_data]; rfl
  cases hq : q.toList with
  | nil => rw [hq] at h1; simp at h1; omega
  | cons => rfl
def strLen : Value → Nat | .string s => s.size | _ => 0

def SumPost (w : World) (l : List Int) (e : Ending) (w' : World) : Prop := e = .returned (.string (strOfNums (Sha.sum l))) ∧ Below w.heap.size w w'
set_option maxRecDepth 100000 in
set_option maxHeartbeats 1000000 in
theorem sum_any (fr : Nat × Nat × Nat) (w : World) (v : Value) (xs : List ByteArray) (hp : PartsAre w v xs) (hlen : (cat xs).size ≤ 100000000000000) (hk : Hid (Keys fr w)) :
    Calls Tryz.prog 55 #[v] w (SumPost w (Sha.nums (cat xs))) := by
  go_enter Tryz.func55, Tryz.ntmps55
  go_wp2_with fail
  refine (join_any _ _ _ hp (by omega)).mono ?_
  rintro e w1 ⟨rfl, hb1⟩
  generalize cat xs = s at *
  have a1 : (0 : Int) ≤ (s.size : Int) := by omega
  have a2 : (s.size : Int) ≤ 100000000000000 := by omega
  go_wp2_with fail
  have hn : Sha.nought s.size ≤ 63 := by unfold Sha.nought; omega
  rw [show ((119 - (s.size : Int)) % 64) = ((Sha.nought s.size : Nat) : Int) by unfold Sha.nought; omega]
  refine (Tryz.strings_Repeat ⟨#[0]⟩ (Sha.nought s.size) w1 (by omega) (by show 1 * _ ≤ _; omega)).mono ?_
  rintro e w2 ⟨rfl, hb2⟩
  rw [zeros_repeat]
  generalize hN : Sha.nought s.size = N at *
  have HN := hid' hN
  clear hN
  go_wp2_with fail
  refine (number_any (8 * (s.size : Int)) 8 w2 (by omega) (by omega) (by omega) (by omega)).mono ?_
  rintro e w3 ⟨rfl, hb3, row3, hz3⟩
  have hcv := conv_row (c := 8) row3 (xs := Sha.be8 (8 * (s.size : Int))) rfl (fun i hi => be8_at _ i hi)
  have hpad := pad_nums s N HN.out
  have hz8 : (strOfNums (Sha.be8 (8 * (s.size : Int)))).size ≤ 8 := by rw [strOfNums_size]; exact Nat.le_refl _
  go_wp2_with fail
  generalize hP : s ++ (({ data := #[128] } : ByteArray) ++ { data := Array.replicate N 0 } ++ strOfNums (Sha.be8 (8 * (s.size : Int)))) = p at *
  have hB : w.heap.size ≤ w2.heap.size + 1 := by have := hb1.size; have := hb2.size; omega
  have S0 : SumAt w (w3.alloc (.cells (eight fun i => Sha.iv.getD i 0) 136)) (w2.heap.size + 1) (Sha.padded (Sha.nums s)) 0 p := by
    refine ⟨(((hb1.trans (hb2.mono hb1.size)).trans (hb3.mono (by have := hb1.size; have := hb2.size; omega))).alloc (by omega) _), heap_new_at _ _ hz3, by rw [hpad]; rfl, by omega⟩
  have hL := Sha.padded_mod (Sha.nums s)
  clear hcv hP hpad hb1 hb2 hb3 row3 HN hn hp hz8
  generalize w2.heap.size + 1 = Bh at *
  generalize hLL : Sha.padded (Sha.nums s) = L at *
  have HLL := hid' hLL
  clear hLL hz3
  go_loopw [3] (fun v3 wr => ∃ (n : Nat) (q : ByteArray), v3 = .string q ∧ SumAt w wr Bh L n q) (fun v _ => strLen v)
  case atStart => exact ⟨0, p, rfl, S0⟩
  case round =>
    clear S0
    obtain ⟨n, q, rfl, S⟩ := hrel
    by_cases hq : 64 * n < L.length
    · have hsz : 64 ≤ q.size := by
        have := S.size
        omega
      have hne := nonempty_of hsz
      have c0 := cell_of_eight S.cells 0 (by omega)
      have c1 := cell_of_eight S.cells 1 (by omega)
      have c2 := cell_of_eight S.cells 2 (by omega)
      have c3 := cell_of_eight S.cells 3 (by omega)
      have c4 := cell_of_eight S.cells 4 (by omega)
      have c5 := cell_of_eight S.cells 5 (by omega)
      have c6 := cell_of_eight S.cells 6 (by omega)
      have c7 := cell_of_eight S.cells 7 (by omega)
      have z64 : (64 : Int) ≤ (q.size : Int) := by omega
      go_wp2_with fail
      go_still_tail 3, (by kernel_rfl)
      change wpList _ _ _ _ _ wr.drew
      clear c0 c1 c2 c3 c4 c5 c6 c7
      have S2 : SumAt w wr.drew Bh L n q := ⟨S.bel.drew, S.cells, S.rest, S.le⟩
      clear S
      generalize wr.drew = wr2 at S2 ⊢
      go_wp2_with fail
      have hx : 64 ≤ (q.extract 0 64).size := by rw [ByteArray.size_extract]; omega
      have hk2 : Hid (Keys fr wr2) := (S2.bel.block _ hk.out.lt).trans hk.out
      refine (mix_any fr (Sha.st L n) (q.extract 0 64) wr2 hx (Sha.st_fit L n) hk2).mono ?_
      rintro e w5 ⟨rfl, hb5⟩
      rw [mix_next S2 hsz]
      have S5 : SumAt w w5 Bh L n q := ⟨S2.bel.trans (hb5.mono S2.bel.size), (hb5.block _ S2.lt).trans S2.cells, S2.rest, S2.le⟩
      clear S2 hb5 hk2
      have G := hid' S5.cells
      go_wp2_with (first
        | (refine wpList_store_row rfl 136 (.tmp 5) (.tmp 36) rfl Bh _ rfl rfl 136 _ G.out (by kernel_rfl) rfl (eight_one _) ?_)
        | fail)
      go_roundw
      case rel => exact ⟨n + 1, _, rfl, S5.step hB hsz⟩
      case measure => simp [strLen]; omega
    · have hq0 : q.size = 0 := by have := S.size; omega
      obtain rfl : q = ⟨#[]⟩ := empty_of hq0
      have hn : n = L.length / 64 := by have := S.size; omega
      subst hn
      have hL64 : Sha.sum (Sha.nums s) = Sha.outs (Sha.st L (L.length / 64)) 8 := by rw [Sha.sum, HLL.out]
      have G := hid' S.cells
      have HL := hid' hL64
      have bel := S.bel
      have fit := Sha.st_fit L (L.length / 64)
      clear hL64 S hL hq hq0 HLL
      generalize Sha.st L (L.length / 64) = u at *
      have hidx := fun (t : Nat) (ht : t < 8) (w : World) => run_index_ints w 136 112 8 (eight u) _ Tryz.underlying136 Tryz.sizeOf112 Tryz.isAgg112 t ht (eight_cell u t ht)
      go_wp2_with (first
        | (refine wpList_load_row rfl 136 (.tmp 5) rfl Bh rfl 136 (eight u) (0, 0) _ G.out Tryz.underlying136 rfl (by kernel_rfl) ?_)
        | fail)
      clear G
      go_loopw [6, 38] (fun vo vi wr => ∃ k : Nat, k ≤ 8 ∧ vi = .int .i64 k ∧ Below w.heap.size w wr ∧ Owns w.heap.size wr vo (Sha.outs u k)) (fun _ vi _ => 8 - (intOf vi).toNat)
      case atStart => exact ⟨0, by omega, rfl, bel, Owns.nil _ _⟩
      case round =>
        clear bel
        obtain ⟨k, hk8, rfl, bel, own⟩ := hrel
        by_cases hlt : k < 8
        · have hx := hidx k hlt
          have k8 : (k : Int) < 8 := by omega
          have f1 := (fit k).1
          have f2 := (fit k).2
          go_wp2_with fail
          refine (number_any (u k) 4 _ (by omega) (by omega) (by omega) (by omega)).mono ?_
          rintro e w6 ⟨rfl, hb6, row6, hz6⟩
          have own6 := own.below hb6
          have bel6 := bel.trans (hb6.mono bel.size)
          have hlen := Sha.outs_length u k
          have HO := hid' own6
          have HR := hid' row6
          clear own own6 hb6 row6
          go_wp2_with (first
            | (refine append_bytes rfl (.tmp 41) (.tmp 44) rfl w.heap.size _ _ rfl HO.out _ 0 4 _ (Sha.be4 (u k)) rfl rfl (fun i hi => by rw [Nat.zero_add, HR.out.cell hi, be4_at _ _ hi]) (by omega) (by have := bel6.size; omega) (fun v' w' h1 h2 => ?_))
            | fail)
          go_roundw
          case rel => exact ⟨k + 1, by omega, by go_num, Below.owned bel6 h2 HO.out bel6.size (Nat.le_refl _), by rw [Sha.outs_succ]; exact h1⟩
          case measure => simp [intOf]; omega
        · obtain rfl : k = 8 := by omega
          have hcv := own.conv
          rw [← HL.out] at hcv
          go_wp2_with fail
          go_ret
          exact ⟨rfl, bel⟩
end Go.Proofs.YtmddaomchhigbaaGreatDoor
