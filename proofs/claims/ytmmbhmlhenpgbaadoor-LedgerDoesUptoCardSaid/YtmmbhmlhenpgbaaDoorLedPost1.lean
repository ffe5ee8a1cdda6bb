/- Proved: ledger's New, Balance, and which postings a call refuses, as contracts. -/
import Derived.Test.YtmmbhmlhenpgbaaDoorLedMap
import Derived.Test.YtmmbhmlhenpgbaaDoorLedRight
import Derived.Test.YtmmbhmlhenpgbaaDoorRefSame
import Derived.Test.YtmmbhmlhenpgbaaDoorLedDec2
namespace Go.Proofs.YtmmbhmlhenpgbaaDoor
open Go.RowKit
open Led
set_option linter.unusedVariables false
set_option linter.unusedSimpArgs false
set_option maxRecDepth 100000
/-- The cells of postings that the ledger has laid: each with the slice of its legs. -/
def postCells : List (Post × Value) → List Value
  | [] => []
  | x :: t => .int .i64 x.1.day :: .int .i64 x.1.id :: x.2 :: postCells t
theorem postCells_append (l m : List (Post × Value)) : postCells (l ++ m) = postCells l ++ postCells m := by
  induction l with
  | nil => rfl
  | cons x t ih => simp only [List.cons_append, postCells, ih]
theorem postCells_at (l : List (Post × Value)) : ∀ (i : Nat) (x : Post × Value), l[i]? = some x → (postCells l)[i * 3]? = some (.int .i64 x.1.day) ∧ (postCells l)[i * 3 + 1]? = some (.int .i64 x.1.id) ∧ (postCells l)[i * 3 + 2]? = some x.2 := by
  induction l with
  | nil => intro i x h; simp at h
  | cons y t ih =>
    intro i x h
    cases i with
    | zero => simp at h; subst h; exact ⟨rfl, rfl, rfl⟩
    | succ i =>
      simp at h
      have := ih i x h
      rw [show (i + 1) * 3 = i * 3 + 1 + 1 + 1 by omega]
      exact this
def PostRow (base : Nat) (w : World) (v : Value) (q : List (Post × Value)) : Prop := w.ownsRow base 24 3 v q.length (postCells q)
/-- A ledger in memory: its posts and its map, all of them laid from block base on. -/
structure LedgerAt (base lb : Nat) (pv : Value) (mb n : Nat) (q : List (Post × Value)) (M : DataW Unit) (W : World) : Prop where
  hb : W.heap[lb]? = some (.cells #[pv, .map (some mb)] 71 (0, 0))
  own : PostRow base W pv q
  legs : ∀ x ∈ q, LegRow base W x.2 x.1.legs ∧ right x.1 = true
  map : accM W mb n M
  lo : base ≤ lb
  lom : base ≤ mb
theorem PostRow.ofBlock {base : Nat} {w w' : World} {v : Value} {q : List (Post × Value)} (h : PostRow base w v q) (hb : ∀ g, base ≤ g → g < w.heap.size → w'.heap[g]? = w.heap[g]?) : PostRow base w' v q := by
  obtain ⟨h0, h1 | ⟨g, cap, cur, rfl, h3, h4, h5⟩⟩ := h
  · exact ⟨h0, Or.inl h1⟩
  · exact ⟨h0, Or.inr ⟨g, cap, cur, rfl, h3, by rw [hb g h3 (lt_of_block h4)]; exact h4, h5⟩⟩
theorem LedgerAt.below {base lb : Nat} {pv : Value} {mb n : Nat} {q : List (Post × Value)} {M : DataW Unit} {W W' : World} (h : LedgerAt base lb pv mb n q M W) (B : Below W.heap.size W W') : LedgerAt base lb pv mb n q M W' :=
  ⟨(B.block _ (lt_of_block h.hb)).trans h.hb, h.own.ofBlock (fun g _ hg => B.block g hg), fun x hx => ⟨(h.legs x hx).1.ofBlock (fun g _ hg => B.block g hg), (h.legs x hx).2⟩, owns_below h.map B, h.lo, h.lom⟩
theorem LedgerAt.mono {base base' lb : Nat} {pv : Value} {mb n : Nat} {q : List (Post × Value)} {M : DataW Unit} {W : World} (h : LedgerAt base lb pv mb n q M W) (hb : base' ≤ base) : LedgerAt base' lb pv mb n q M W := by
  have row : ∀ {e : TypeId} {v : Value} {k : Nat} {xs : List Value}, W.ownsRow base e 3 v k xs → W.ownsRow base' e 3 v k xs := by
    rintro e v k xs ⟨h0, h1 | ⟨g, cap, cur, hv, h3, h4⟩⟩
    · exact ⟨h0, Or.inl h1⟩
    · exact ⟨h0, Or.inr ⟨g, cap, cur, hv, by omega, h4⟩⟩
  exact ⟨h.hb, row h.own, fun x hx => ⟨row (h.legs x hx).1, (h.legs x hx).2⟩, h.map, by have := h.lo; omega, by have := h.lom; omega⟩
def NewPost (w : World) (e : Ending) (w' : World) : Prop := ∃ lb mb, e = .returned (.pointer (some ⟨lb, 0, none⟩)) ∧ LedgerAt w.heap.size lb (.slice none 0 0) mb 0 [] (.map []) w' ∧ Below w.heap.size w w'
theorem new_any (w : World) : Calls Tryd.prog 16 #[] w (NewPost w) := by
  have hmm := @run_makeMap Tryd.prog
  go_enter Tryd.func16, Tryd.ntmps16
  go_wp2_with fail
  go_ret
  refine ⟨w.heap.size + 1, w.heap.size, by rfl, ⟨?_, World.ownsRow_nil _ _ _ _, fun x hx => by simp at hx, ?_, by omega, by omega⟩, ((Below.refl _ _).alloc (Nat.le_refl _) _).alloc (by simp) _⟩
  · have := heap_alloc_new (w.alloc (.map #[] 0)) (.cells #[.slice none 0 0, .map (some w.heap.size)] 71)
    rw [World.size_alloc] at this
    exact this
  · exact (World.ownsMap_made w _ _ _).alloc _
theorem balance_any (base lb : Nat) (pv : Value) (mb n : Nat) (q : List (Post × Value)) (M : DataW Unit) (w : World) (h : LedgerAt base lb pv mb n q M w) (p c : ByteArray) (hp : p.size ≤ maxLen) (hc : c.size ≤ maxLen) :
    Calls Tryd.prog 20 #[.pointer (some ⟨lb, 0, none⟩), .string p, .string c] w (Ret (.int .i64 (balOf M p c)) w) := by
  have hlk := (lookup_own h.map hp hc).1
  have h1 : w.cell? ⟨lb, 1, none⟩ = some (.map (some mb)) := by simp [World.cell?, h.hb]
  generalize balOf M p c = x at *
  clear h
  go_enter Tryd.func20, Tryd.ntmps20
  go_wp2_with fail
  go_ret
  exact ⟨rfl, rfl⟩
theorem balance_nil (p c : ByteArray) (w : World) : Calls Tryd.prog 20 #[.pointer none, .string p, .string c] w (Ret (.int .i64 0) w) := by
  go_enter Tryd.func20, Tryd.ntmps20
  go_wp2_with fail
  go_ret
  exact ⟨rfl, rfl⟩
theorem refuses_any (p : Post) (lv : Value) (w : World) (hl : LegsAt w lv p.legs) (hd : -9223372036854775808 ≤ p.day ∧ p.day ≤ 9223372036854775807) (hi : -9223372036854775808 ≤ p.id ∧ p.id ≤ 9223372036854775807) :
    Calls Tryd.prog 39 #[.agg #[.int .i64 p.day, .int .i64 p.id, lv]] w (Gives (.bool (!right p)) w) := by
  have HR := hid' (fun W (B : Below w.heap.size w W) => right_any p lv W (hl.below B) hd hi)
  obtain ⟨pp, cap, hlv, _⟩ := LegsAt.row hl
  subst hlv
  clear hl
  generalize right p = r at *
  go_enter Tryd.func39, Tryd.ntmps39
  go_wp2_with fail
  refine (HR.out _ ((Below.refl _ _).alloc (Nat.le_refl _) _)).mono ?_
  rintro e w1 ⟨rfl, b1⟩
  go_wp2_with fail
  go_ret
  exact ⟨rfl, Below.more ((Below.refl _ _).alloc (Nat.le_refl _) _) b1⟩
def IdxPost (ps : List Post) (w : World) (e : Ending) (w' : World) : Prop := ∃ r : Int, e = .returned (.int .i64 r) ∧ decide (0 ≤ r) = !ps.all right ∧ Below w.heap.size w w'
theorem index_any (v : Value) (ps : List Post) (w : World) (h : PostsAt w v ps) :
    Calls Tryd.prog 54 #[v, .func (.func 39) #[] #[]] w (IdxPost ps w) := by
  have HP := hid' h
  obtain ⟨p0, c0, rfl, hl, _⟩ := PostsAt.row h
  clear h
  have hl' : (ps.length : Int) ≤ 9223372036854775807 := by omega
  go_enter Tryd.func54, Tryd.ntmps54
  go_wp2_with fail
  go_loopw [8] (fun iv wr => ∃ i : Nat, iv = .int .i64 (i : Int) ∧ i ≤ ps.length ∧ Hid (Below w.heap.size w wr) ∧ Hid ((ps.take i).all right = true)) (fun iv _ => ps.length - (intOf iv).toNat)
  case atStart => exact ⟨0, rfl, Nat.zero_le _, hid' (Below.refl _ _), hid' rfl⟩
  case round =>
    obtain ⟨i, rfl, hi, HB, HA⟩ := hrel
    by_cases hin : i < ps.length
    · obtain ⟨x, hx⟩ : ∃ x, ps[i]? = some x := ⟨_, List.getElem?_eq_getElem hin⟩
      obtain ⟨b, off, lv, hp0, hb, x1, x2, x3, x4, d1, d2, d3, d4⟩ := PostsAt.at HP.out hx HB.out
      subst hp0
      have g0 : decide ((i : Int) < (ps.length : Int)) = true := by simp; omega
      have j1 : (0 : Int) ≤ (i : Int) := by omega
      have j2 : (i : Int) < (ps.length : Int) := by omega
      have HRF := hid' (refuses_any x lv wr x4 ⟨d1, d2⟩ ⟨d3, d4⟩)
      have HX := hid' hx
      obtain ⟨lp, lc, hlv, _⟩ := LegsAt.row x4
      subst hlv
      clear x4 d1 d2 d3 d4 hx
      cases hr : right x with
      | true =>
        have HA2 := hid' (show (ps.take (i + 1)).all right = true by rw [take_snoc ps i x HX.out, List.all_append, HA.out]; simp [hr])
        rw [hr] at HRF
        clear hr
        go_wp2_with fail
        refine HRF.out.mono ?_
        rintro e w1 ⟨rfl, b1⟩
        have HB2 := hid' (Below.more HB.out b1)
        go_wp2_with fail
        go_roundw
        case rel => exact ⟨i + 1, by go_num, by omega, HB2, HA2⟩
        case measure => simp [intOf]; omega
      | false =>
        have HE := hid' (show ps.all right = false by rw [List.all_eq_false]; exact ⟨x, List.mem_of_getElem? HX.out, by rw [hr]; simp⟩)
        rw [hr] at HRF
        clear hr
        go_wp2_with fail
        refine HRF.out.mono ?_
        rintro e w1 ⟨rfl, b1⟩
        have HB2 := hid' (Below.more HB.out b1)
        go_wp2_with fail
        go_ret
        exact ⟨_, rfl, by rw [HE.out]; simp, HB2.out⟩
    · obtain rfl : i = ps.length := by omega
      have g9 : decide (ps.length < ps.length) = false := by simp
      have HE := hid' (show ps.all right = true by have := HA.out; rwa [List.take_length] at this)
      clear hin
      go_wp2_with fail
      go_ret
      exact ⟨-1, rfl, by rw [HE.out]; rfl, HB.out⟩
theorem contains_any (v : Value) (ps : List Post) (w : World) (h : PostsAt w v ps) :
    Calls Tryd.prog 38 #[v, .func (.func 39) #[] #[]] w (Gives (.bool (!ps.all right)) w) := by
  have HI := hid' (index_any v ps w h)
  obtain ⟨p0, c0, rfl, hl, _⟩ := PostsAt.row h
  clear h
  obtain ⟨z, hz⟩ : ∃ z, Hid (z = !ps.all right) := ⟨_, rfl⟩
  rw [← hz.out]
  go_enter Tryd.func38, Tryd.ntmps38
  go_wp2_with fail
  refine HI.out.mono ?_
  rintro e w1 ⟨r, rfl, hr, b1⟩
  have HR := hid' hr
  clear hr
  go_wp2_with fail
  go_ret
  exact ⟨by rw [hz.out, ← HR.out]; rfl, b1⟩
end Go.Proofs.YtmmbhmlhenpgbaaDoor
