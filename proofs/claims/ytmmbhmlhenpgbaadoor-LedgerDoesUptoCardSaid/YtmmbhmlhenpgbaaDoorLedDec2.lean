/- Proved: ledger's Decode as a contract: what bytes are read as. -/
import Derived.Test.YtmmbhmlhenpgbaaDoorLedDec1
import Derived.Test.YtmmbhmlhenpgbaaDoorLedRight
import Derived.OneCell
import Derived.Laws.Rows
import Derived.Deep.RegionHeld3
import Derived.Deep.DeepCutAuto
namespace Go.Proofs.YtmmbhmlhenpgbaaDoor
open Go.RowKit
open Led
set_option linter.unusedVariables false
set_option linter.unusedSimpArgs false
set_option maxRecDepth 100000
/-- Decode's own blocks: the bytes, the result, the place, whether all went well. -/
structure DecW (w : World) (v0 : Value) (b0 rb b1 b2 a : Nat) (g : Bool) (W : World) : Prop where
  bel : Below w.heap.size w W
  k0 : W.heap[b0]? = some (.cells #[v0] 25 (0, 0))
  kr : W.heap[rb]? = some (.cells #[.int .i64 0, .int .i64 0, .slice none 0 0] 24 (0, 0))
  k1 : W.heap[b1]? = some (.cells #[.int .i64 (a : Int)] 3 (0, 0))
  k2 : W.heap[b2]? = some (.cells #[.bool g] 4 (0, 0))
def DecB (w : World) (b0 rb b1 b2 : Nat) : Prop := b0 = w.heap.size ∧ rb = w.heap.size + 1 ∧ b1 = w.heap.size + 1 + 1 ∧ b2 = w.heap.size + 1 + 1 + 1
theorem DecW.start (w : World) (v0 : Value) (b0 rb b1 b2 : Nat) (h : DecB w b0 rb b1 b2) :
    DecW w v0 b0 rb b1 b2 0 true ((((w.alloc (.cells #[v0] 25)).alloc (.cells #[.int .i64 0, .int .i64 0, .slice none 0 0] 24)).alloc (.cells #[.int .i64 0] 3)).alloc (.cells #[.bool true] 4)) := by
  obtain ⟨rfl, rfl, rfl, rfl⟩ := h
  have h1 := heap_alloc_new w (.cells #[v0] 25)
  have h2 := heap_alloc_new (w.alloc (.cells #[v0] 25)) (.cells #[.int .i64 0, .int .i64 0, .slice none 0 0] 24)
  have h3 := heap_alloc_new ((w.alloc (.cells #[v0] 25)).alloc (.cells #[.int .i64 0, .int .i64 0, .slice none 0 0] 24)) (.cells #[.int .i64 0] 3)
  have h4 := heap_alloc_new (((w.alloc (.cells #[v0] 25)).alloc (.cells #[.int .i64 0, .int .i64 0, .slice none 0 0] 24)).alloc (.cells #[.int .i64 0] 3)) (.cells #[.bool true] 4)
  simp only [World.size_alloc] at h1 h2 h3 h4
  refine ⟨((((Below.refl _ _).alloc (Nat.le_refl _) _).alloc (by simp) _).alloc (by simp; try omega) _).alloc (by simp; try omega) _, ?_, ?_, ?_, h4⟩
  · rw [Below.heap_alloc _ _ _ (by simp; try omega), Below.heap_alloc _ _ _ (by simp; try omega), Below.heap_alloc _ _ _ (by simp)]; exact h1
  · rw [Below.heap_alloc _ _ _ (by simp; try omega), Below.heap_alloc _ _ _ (by simp)]; exact h2
  · rw [Below.heap_alloc _ _ _ (by simp)]; exact h3
theorem DecW.cur {w : World} {v0 : Value} {b0 rb b1 b2 a : Nat} {g : Bool} {W : World} (h : DecW w v0 b0 rb b1 b2 a g W) (hb : DecB w b0 rb b1 b2) {l : List UInt8} (hr : Reads w v0 (nums l)) : CurAt w l v0 b0 b1 b2 a g W := by
  obtain ⟨e0, er, e1, e2⟩ := hb
  exact ⟨h.bel, cell_of_one h.k0, cell_of_one h.k1, cell_of_one h.k2, free_of_one h.k1, free_of_one h.k2, hr, by omega, by omega, by omega, by omega, by omega⟩
theorem curNext_heap (W : World) (b1 b2 : Nat) (a : Int) (g : Bool) (k : Nat) (h1 : k ≠ b1) (h2 : k ≠ b2) : (curNext W b1 b2 a g).heap[k]? = W.heap[k]? := by
  unfold curNext
  rw [Below.heap_setCell _ _ _ _ (by exact h2), Below.heap_setCell _ _ _ _ (by exact h1)]
theorem DecW.next {w : World} {v0 : Value} {b0 rb b1 b2 a : Nat} {g : Bool} {W : World} (h : DecW w v0 b0 rb b1 b2 a g W) (hb : DecB w b0 rb b1 b2) (a' : Nat) (g' : Bool) : DecW w v0 b0 rb b1 b2 a' g' (curNext W b1 b2 a' g') := by
  obtain ⟨e0, er, e1, e2⟩ := hb
  refine ⟨curNext_below h.bel _ _ _ _ (by omega) (by omega), ?_, ?_, ?_, ?_⟩
  · rw [curNext_heap _ _ _ _ _ _ (by omega) (by omega)]; exact h.k0
  · rw [curNext_heap _ _ _ _ _ _ (by omega) (by omega)]; exact h.kr
  · unfold curNext
    rw [Below.heap_setCell _ _ _ _ (show b1 ≠ b2 by omega)]
    exact one_setCell h.k1
  · unfold curNext
    exact one_setCell (by rw [Below.heap_setCell _ _ _ _ (show b2 ≠ b1 by omega)]; exact h.k2)
theorem DecW.grown {w : World} {v0 : Value} {b0 rb b1 b2 a : Nat} {g : Bool} {W W' : World} {row : Option Nat} (h : DecW w v0 b0 rb b1 b2 a g W) (hb : DecB w b0 rb b1 b2) (hg : W.grownBy W' row) (hr : ∀ k, row = some k → w.heap.size + 4 ≤ k) : DecW w v0 b0 rb b1 b2 a g W' := by
  have hs : w.heap.size + 4 ≤ W.heap.size := by
    have := lt_of_block h.k2
    obtain ⟨e0, er, e1, e2⟩ := hb
    omega
  have hk : ∀ k, k < w.heap.size + 4 → W'.heap[k]? = W.heap[k]? := fun k hk => hg.block k (by omega) (fun e => by have := hr k e.symm; omega)
  obtain ⟨e0, er, e1, e2⟩ := hb
  exact ⟨h.bel.grown hg (by omega) (fun k e => by have := hr k e; omega), by rw [hk _ (by omega)]; exact h.k0, by rw [hk _ (by omega)]; exact h.kr, by rw [hk _ (by omega)]; exact h.k1, by rw [hk _ (by omega)]; exact h.k2⟩
theorem add_is (b j : Nat) : (⟨b, 0, none⟩ : Addr).add j = ⟨b, 0 + j, none⟩ := by unfold Addr.add; split <;> simp_all
theorem alloc_cell {w : World} {p : Addr} {v : Value} (h : w.cell? p = some v) (o : Obj) : (w.alloc o).cell? p = some v :=
  (World.cell?_alloc_old w o p (Nat.ne_of_lt (World.block_lt_of_cell? w p h))).trans h
/-- A call of a closure as one step of a region that draws. -/
theorem step_closure {P : Program} {w : World} {ops : Array Oper} {o : Oper} {a : Act} {K : Act → World → Prop} {Q : Exit → Act → World → Prop} {E : Prop} (hgd : o.guard = none) (c : Operand)
    (ho : o.op = .call { callee := .value c, args := #[], argTypes := #[] }) (f : FuncId) (caps : Array Value) (hc : a.eval c = .func (.func f) #[] caps) (hen : (callFunc f caps).run P w = .ok (.enter f caps) w) (v : Value) (R : World → Prop)
    (h : Calls P f caps w fun e w' => e = .returned v ∧ R w') (hK : ∀ w', R w' → K (a.put o.dst v) w') :
    if Region.wanted o (yielded ops a.tmps) = true then Oper.wp P o a w K Q else E := by
  have hw : Region.wanted o (yielded ops a.tmps) = true := by simp [Region.wanted, hgd]
  rw [if_pos hw]
  unfold Oper.wp execOp
  simp only [ho, resolve, invoke, hc, Sem.run_bind, Sem.run_pure, Result.andThen_ok]
  go_simp
  refine h.mono ?_
  rintro e w' ⟨rfl, hr⟩
  exact hK w' hr
theorem call_text (caps : Array Value) (w : World) : (callFunc 34 caps).run Tryd.prog w = .ok (.enter 34 caps) w := by kernel_rfl
theorem call_number (caps : Array Value) (w : World) : (callFunc 32 caps).run Tryd.prog w = .ok (.enter 32 caps) w := by kernel_rfl
/-- A row of legs of the call's own. -/
def legCells : List Leg → List Value
  | [] => []
  | x :: t => .string x.party :: .string x.cur :: .int .i64 x.amount :: legCells t
theorem legCells_len (L : List Leg) : (legCells L).length = L.length * 3 := by
  induction L with
  | nil => rfl
  | cons x t ih => simp only [legCells, List.length_cons, ih]; omega
theorem legCells_append (L M : List Leg) : legCells (L ++ M) = legCells L ++ legCells M := by
  induction L with
  | nil => rfl
  | cons x t ih => simp only [List.cons_append, legCells, ih]
theorem legCells_at (L : List Leg) : ∀ (i : Nat) (x : Leg), L[i]? = some x → (legCells L)[i * 3]? = some (.string x.party) ∧ (legCells L)[i * 3 + 1]? = some (.string x.cur) ∧ (legCells L)[i * 3 + 2]? = some (.int .i64 x.amount) := by
  induction L with
  | nil => intro i x h; simp at h
  | cons y t ih =>
    intro i x h
    cases i with
    | zero => simp at h; subst h; exact ⟨rfl, rfl, rfl⟩
    | succ i =>
      simp at h
      have := ih i x h
      rw [show (i + 1) * 3 = i * 3 + 1 + 1 + 1 by omega]
      exact this
def LegRow (base : Nat) (w : World) (v : Value) (L : List Leg) : Prop := w.ownsRow base 41 3 v L.length (legCells L)
theorem LegRow.nil (base : Nat) (w : World) : LegRow base w (.slice none 0 0) [] := w.ownsRow_nil base _ 3
theorem LegRow.form {base : Nat} {w : World} {v : Value} {L : List Leg} (h : LegRow base w v L) : ∃ p cap, v = .slice p L.length cap := by
  obtain ⟨_, ⟨rfl, h2⟩ | ⟨g, cap, cur, rfl, _⟩⟩ := h
  · exact ⟨none, 0, by rw [h2]⟩
  · exact ⟨_, _, rfl⟩
theorem LegRow.legs {base : Nat} {w : World} {v : Value} {L : List Leg} (h : LegRow base w v L) (hf : ∀ x ∈ L, Fits x) : LegsAt w v L := by
  have h' := h
  obtain ⟨h0, ⟨rfl, h2⟩ | ⟨g, cap, cur, rfl, h3, h4, h5, h6, h7, h8⟩⟩ := h
  · exact Or.inl ⟨⟨_, rfl⟩, List.length_eq_zero_iff.1 h2⟩
  · refine Or.inr ⟨g, 0, cap, rfl, h5, h6, lt_of_block h4, fun i x hx => ?_⟩
    have hc := World.ownsRow.cells h' (g := g) rfl
    obtain ⟨c1, c2, c3⟩ := legCells_at L i x hx
    have hfx := hf x (List.mem_of_getElem? hx)
    have d1 := hc _ _ c1
    have d2 := hc _ _ c2
    have d3 := hc _ _ c3
    rw [add_is] at d1 d2 d3
    exact ⟨d1, d2, d3, by have := hfx.party; omega, by have := hfx.cur; omega, hfx.lo, hfx.hi⟩
theorem LegRow.ofBlock {base : Nat} {w w' : World} {v : Value} {L : List Leg} (h : LegRow base w v L) (hb : ∀ g, base ≤ g → g < w.heap.size → w'.heap[g]? = w.heap[g]?) : LegRow base w' v L := by
  obtain ⟨h0, h1 | ⟨g, cap, cur, rfl, h3, h4, h5⟩⟩ := h
  · exact ⟨h0, Or.inl h1⟩
  · exact ⟨h0, Or.inr ⟨g, cap, cur, rfl, h3, by rw [hb g h3 (lt_of_block h4)]; exact h4, h5⟩⟩
theorem info_leg : (Tryd.prog.info? 41).map (fun i => (i.zero, i.size, i.bytes)) = some (some (.agg #[.string ⟨#[]⟩, .string ⟨#[]⟩, .int .i64 0]), 3, 40) := by kernel_rfl
theorem step_leg {w : World} {ops : Array Oper} {o : Oper} {a : Act} {K : Act → World → Prop} {Q : Exit → Act → World → Prop} {E : Prop} (hgd : o.guard = none) (s x : Operand)
    (ho : o.op = .call { callee := .builtin .append, args := #[s, x], argTypes := #[22, 22] })
    (base : Nat) (v : Value) (L : List Leg) (hs : a.eval s = v) (hown : LegRow base w v L) (y : Leg) (hx : a.eval x = .slice (some ⟨w.heap.size, 0, none⟩) 1 1)
    (hbound : L.length + 1 ≤ 1000) (hbase : base ≤ w.heap.size)
    (h : ∀ v' w', LegRow base w' v' (L ++ [y]) → w.grownBy w' v.ownBlock → K (a.put o.dst v') w') :
    if Region.wanted o (yielded ops a.tmps) = true then Oper.wp Tryd.prog o a (w.alloc (.cells #[.string y.party, .string y.cur, .int .i64 y.amount] 41)) K Q else E := by
  have hw : Region.wanted o (yielded ops a.tmps) = true := by simp [Region.wanted, hgd]
  rw [if_pos hw]
  obtain ⟨i, hi, hz, hsz, hby⟩ := info_parts info_leg
  refine wp_append_own _ s x 22 ho base 41 i _ 3 40 Tryd.underlying22 hi hz hsz hby rfl (by decide) v L.length _ hs (hown.alloc _) ⟨w.heap.size, 0, none⟩ 1 1 [.string y.party, .string y.cur, .int .i64 y.amount] hx rfl
    (fun j u hj => ?_) (fun u hu => ?_) (by unfold maxLen; omega) (by omega) (by simp; omega) (fun v' w' h1 h2 _ => h v' w' ?_ (grown_trans' (World.grownBy_alloc w _ _) h2))
  · rw [add_is, World.cell?_alloc_new, Nat.zero_add, ← hj]
    simp
  · simp only [List.mem_cons, List.not_mem_nil, or_false] at hu
    rcases hu with rfl | rfl | rfl <;> rfl
  · show World.ownsRow w' base _ 3 v' (L ++ [y]).length (legCells (L ++ [y]))
    rw [List.length_append, legCells_append]
    exact h1
/-- Decode's world in its loop: its own blocks, the posting, its legs. -/
structure DecQ (w : World) (v0 : Value) (b0 rb b1 b2 pb : Nat) (day id : Int) (lv : Value) (L : List Leg) (a : Nat) (g : Bool) (W : World) : Prop where
  dw : DecW w v0 b0 rb b1 b2 a g W
  kp : W.heap[pb]? = some (.cells #[.int .i64 day, .int .i64 id, lv] 24 (0, 0))
  own : LegRow (pb + 1) W lv L
  hp : w.heap.size + 4 ≤ pb
theorem DecQ.next {w : World} {v0 : Value} {b0 rb b1 b2 pb : Nat} {day id : Int} {lv : Value} {L : List Leg} {a : Nat} {g : Bool} {W W' : World} (h : DecQ w v0 b0 rb b1 b2 pb day id lv L a g W) (hb : DecB w b0 rb b1 b2) {a' : Nat} {g' : Bool} (hw : W' = curNext W b1 b2 a' g') : DecQ w v0 b0 rb b1 b2 pb day id lv L a' g' W' := by
  subst hw
  have hp := h.hp
  have hb' := hb
  obtain ⟨e0, er, e1, e2⟩ := hb
  refine ⟨h.dw.next hb' _ _, ?_, h.own.ofBlock (fun k hk _ => curNext_heap _ _ _ _ _ _ (by omega) (by omega)), hp⟩
  rw [curNext_heap _ _ _ _ _ _ (by omega) (by omega)]; exact h.kp
theorem DecQ.cell {w : World} {v0 : Value} {b0 rb b1 b2 pb : Nat} {day id : Int} {lv : Value} {L : List Leg} {a : Nat} {g : Bool} {W : World} (h : DecQ w v0 b0 rb b1 b2 pb day id lv L a g W) : W.cell? ⟨pb, 2, none⟩ = some lv := by
  simp [World.cell?, h.kp]
theorem DecQ.drew {w : World} {v0 : Value} {b0 rb b1 b2 pb : Nat} {day id : Int} {lv : Value} {L : List Leg} {a : Nat} {g : Bool} {W : World} (h : DecQ w v0 b0 rb b1 b2 pb day id lv L a g W) : DecQ w v0 b0 rb b1 b2 pb day id lv L a g W.drew :=
  ⟨⟨h.dw.bel.drew, h.dw.k0, h.dw.kr, h.dw.k1, h.dw.k2⟩, h.kp, h.own, h.hp⟩
/-- Behind the append: the row has grown, the posting not yet. -/
theorem DecQ.append {w : World} {v0 : Value} {b0 rb b1 b2 pb : Nat} {day id : Int} {lv v' : Value} {L : List Leg} {a : Nat} {g : Bool} {W W' : World} {y : Leg} (h : DecQ w v0 b0 rb b1 b2 pb day id lv L a g W) (hb : DecB w b0 rb b1 b2) (h1 : LegRow (pb + 1) W' v' (L ++ [y])) (h2 : W.grownBy W' lv.ownBlock) :
    W'.cell? ⟨pb, 2, none⟩ = some lv ∧ W'.frozen? ⟨pb, 2, none⟩ = false ∧ DecQ w v0 b0 rb b1 b2 pb day id v' (L ++ [y]) a g (W'.setCell ⟨pb, 2, none⟩ v') := by
  have hp := h.hp
  have hlt := lt_of_block h.kp
  have hr : ∀ k, lv.ownBlock = some k → pb + 1 ≤ k := fun k e => (World.ownsRow.lt h.own k e).1
  have hkp : W'.heap[pb]? = some (.cells #[.int .i64 day, .int .i64 id, lv] 24 (0, 0)) := (h2.block pb hlt (fun e => by have := hr pb e.symm; omega)).trans h.kp
  have hdw := h.dw.grown hb h2 (fun k e => by have := hr k e; omega)
  have hb' := hb
  obtain ⟨e0, er, e1, e2⟩ := hb
  refine ⟨by simp [World.cell?, hkp], by simp [World.frozen?, hkp], ⟨⟨hdw.bel.setCell (p := ⟨pb, 2, none⟩) (by show w.heap.size ≤ pb; omega) _, ?_, ?_, ?_, ?_⟩, ?_, ?_, hp⟩⟩
  · rw [Below.heap_setCell _ _ _ _ (by show b0 ≠ pb; omega)]; exact hdw.k0
  · rw [Below.heap_setCell _ _ _ _ (by show rb ≠ pb; omega)]; exact hdw.kr
  · rw [Below.heap_setCell _ _ _ _ (by show b1 ≠ pb; omega)]; exact hdw.k1
  · rw [Below.heap_setCell _ _ _ _ (by show b2 ≠ pb; omega)]; exact hdw.k2
  · exact heap_setCell_same _ _ _ _ _ _ hkp
  · exact h1.ofBlock (fun k hk _ => Below.heap_setCell _ _ _ _ (by show k ≠ pb; omega))
theorem DecQ.start {w : World} {v0 : Value} {b0 rb b1 b2 : Nat} {a : Nat} {g : Bool} {W : World} (h : DecW w v0 b0 rb b1 b2 a g W) (hb : DecB w b0 rb b1 b2) (day id : Int) : DecQ w v0 b0 rb b1 b2 W.heap.size day id (.slice none 0 0) [] a g (W.alloc (.cells #[.int .i64 day, .int .i64 id, .slice none 0 0] 24)) := by
  refine ⟨h.grown hb (World.grownBy_alloc W _ none) (fun k e => by cases e), heap_alloc_new _ _, LegRow.nil _ _, ?_⟩
  have := lt_of_block h.k2
  obtain ⟨e0, er, e1, e2⟩ := hb
  omega
/-- How far the loop has come. -/
structure DecP (l : List UInt8) (i : Nat) (L : List Leg) (a : Nat) (g : Bool) : Prop where
  len : L.length = i
  g0 : headG l = false → g = false
  at_ : headG l = true → DecAt l (numN l (numN l (numN l 0))) i L a g
  le : i ≤ 65
  cnt : (i : Int) ≤ numV l (numN l (numN l 0)) ∨ i = 0
  fits : ∀ x ∈ L, Fits x
theorem DecP.fails {l : List UInt8} {i : Nat} {L : List Leg} {a : Nat} {g : Bool} (h : DecP l i L a g) (hg : g = false) : dec l = none := by
  cases hh : headG l with
  | false => exact dec_none (by rw [takeHead_is, if_neg (by rw [hh]; simp)])
  | true =>
    have ht := takeHead_is l
    rw [if_pos hh] at ht
    have hd := h.at_ hh
    rcases h.cnt with hc | hc
    · exact dec_dies ht hc (hd.no hg)
    · subst hc
      have := hd.no hg
      cases this
theorem cells_of3 {w : World} {b : Nat} {x y z : Value} {t : TypeId} (h : w.heap[b]? = some (.cells #[x, y, z] t (0, 0))) :
    w.cell? ⟨b, 0, none⟩ = some x ∧ w.cell? ⟨b, 1, none⟩ = some y ∧ w.cell? ⟨b, 2, none⟩ = some z ∧ ∀ o, w.frozen? ⟨b, o, none⟩ = false :=
  ⟨by simp [World.cell?, h], by simp [World.cell?, h], by simp [World.cell?, h], fun o => by simp [World.frozen?, h]⟩
theorem legV_fits (l : List UInt8) (a : Nat) : Fits (legV l a) := ⟨txtV_len l _, txtV_len l _, (numV_in l _).1, (numV_in l _).2⟩
theorem DecP.start (l : List UInt8) : DecP l 0 [] (numN l (numN l (numN l 0))) (((true && numOk l 0) && numOk l (numN l 0)) && numOk l (numN l (numN l 0))) :=
  ⟨rfl, (fun h => by unfold headG at h; simpa using h), (fun h => by
    have e : (((true && numOk l 0) && numOk l (numN l 0)) && numOk l (numN l (numN l 0))) = true := by unfold headG at h; simpa using h
    rw [e]; exact DecAt.start l _), (by omega), Or.inr rfl, (fun x hx => by simp at hx)⟩
theorem DecP.step {l : List UInt8} {i : Nat} {L : List Leg} {a : Nat} (h : DecP l i L a true) (hi : i < 65) (hn : (i : Int) < numV l (numN l (numN l 0))) : DecP l (i + 1) (L ++ [legV l a]) (legN l a) (((true && txtOk l a) && txtOk l (txtN l a)) && numOk l (txtN l (txtN l a))) := by
  have hg : headG l = true := by
    cases hc : headG l with
    | true => rfl
    | false => cases h.g0 hc
  refine ⟨by simp [h.len], (fun hc => by rw [hg] at hc; cases hc), fun _ => (h.at_ hg).step, by omega, Or.inl (by omega), fun x hx => ?_⟩
  rw [List.mem_append] at hx
  rcases hx with hx | hx
  · exact h.fits x hx
  · simp at hx; subst hx; exact legV_fits l a
theorem DecP.ends {l : List UInt8} {i : Nat} {L : List Leg} {a : Nat} (h : DecP l i L a true) (hx : ¬ ((i : Int) < numV l (numN l (numN l 0)) ∧ i < 65)) :
    dec l = if a = l.length ∧ (numV l (numN l (numN l 0)) = (L.length : Int) ∧ right ⟨numV l 0, numV l (numN l 0), L⟩ = true) then some ⟨numV l 0, numV l (numN l 0), L⟩ else none := by
  have hg : headG l = true := by
    cases hc : headG l with
    | true => rfl
    | false => cases h.g0 hc
  have ht := takeHead_is l
  rw [if_pos hg] at ht
  have h6 := h.le
  rw [h.len]
  exact dec_ends ht h.cnt (by omega) h.le ((h.at_ hg).yes rfl) h.len
def DecPost (l : List UInt8) (w : World) (e : Ending) (w' : World) : Prop := ∃ lv, e = .returned (.tuple #[.agg #[.int .i64 (decOf l).1.day, .int .i64 (decOf l).1.id, lv], .int .i64 (decOf l).2]) ∧ LegsAt w' lv (decOf l).1.legs ∧ Below w.heap.size w w'
theorem three_below {B : Nat} {w W : World} (h : Below B w W) {b : Nat} (hb : B ≤ b) (x y z : Value) : Below B w (((W.setCell ⟨b, 0, none⟩ x).setCell ⟨b, 1, none⟩ y).setCell ⟨b, 2, none⟩ z) :=
  ((h.setCell (p := ⟨b, 0, none⟩) hb _).setCell (p := ⟨b, 1, none⟩) hb _).setCell (p := ⟨b, 2, none⟩) hb _
theorem dec_bad {l : List UInt8} {w W : World} {b0 rb b1 b2 : Nat} (h : dec l = none) (hb : Below w.heap.size w W) (hB : DecB w b0 rb b1 b2) {x y z : Value} : DecPost l w (.returned (.tuple #[.agg #[.int .i64 0, .int .i64 0, .slice none 0 0], .int .i64 200])) (((W.setCell ⟨rb, 0, none⟩ x).setCell ⟨rb, 1, none⟩ y).setCell ⟨rb, 2, none⟩ z) := by
  obtain ⟨e0, er, e1, e2⟩ := hB
  refine ⟨.slice none 0 0, by unfold decOf; rw [h], ?_, three_below hb (by omega) _ _ _⟩
  unfold decOf; rw [h]; exact Or.inl ⟨⟨_, rfl⟩, rfl⟩
theorem dec_good {l : List UInt8} {w W : World} {b0 rb b1 b2 pb : Nat} {day id : Int} {L : List Leg} {lv : Value} (h : dec l = some ⟨day, id, L⟩) (hb : Below w.heap.size w W) (hB : DecB w b0 rb b1 b2) (hp : w.heap.size + 4 ≤ pb) (hr : LegRow (pb + 1) W lv L) (hf : ∀ x ∈ L, Fits x) {x y z : Value} : DecPost l w (.returned (.tuple #[.agg #[.int .i64 day, .int .i64 id, lv], .int .i64 0])) (((W.setCell ⟨rb, 0, none⟩ x).setCell ⟨rb, 1, none⟩ y).setCell ⟨rb, 2, none⟩ z) := by
  obtain ⟨e0, er, e1, e2⟩ := hB
  refine ⟨lv, by unfold decOf; rw [h], ?_, three_below hb (by omega) _ _ _⟩
  unfold decOf; rw [h]
  refine LegRow.legs (LegRow.ofBlock hr fun k hk _ => ?_) hf
  rw [Below.heap_setCell _ _ _ _ (by show k ≠ rb; omega), Below.heap_setCell _ _ _ _ (by show k ≠ rb; omega), Below.heap_setCell _ _ _ _ (by show k ≠ rb; omega)]
set_option maxHeartbeats 4000000 in
theorem decode_any (v0 : Value) (l : List UInt8) (w : World) (h : Reads w v0 (nums l)) (hl : l.length ≤ 140737488355300) :
    Calls Tryd.prog 13 #[v0] w (DecPost l w) := by
  have HR := hid' h
  obtain ⟨p0, c0, rfl⟩ := h.len
  rw [nums_length] at *
  have HL := hid' hl
  clear h hl
  go_enter Tryd.func13, Tryd.ntmps13
  go_wp2_with fail
  obtain ⟨b2, e2⟩ : ∃ b, b = w.heap.size + 1 + 1 + 1 := ⟨_, rfl⟩
  rw [← e2]
  obtain ⟨b1, e1⟩ : ∃ b, b = w.heap.size + 1 + 1 := ⟨_, rfl⟩
  rw [← e1]
  obtain ⟨rb, er⟩ : ∃ b, b = w.heap.size + 1 := ⟨_, rfl⟩
  rw [← er]
  obtain ⟨b0, e0⟩ : ∃ b, b = w.heap.size := ⟨_, rfl⟩
  rw [← e0]
  have HB := hid' (show DecB w b0 rb b1 b2 from ⟨e0, er, e1, e2⟩)
  have HD := hid' (DecW.start w (.slice p0 l.length c0) b0 rb b1 b2 HB.out)
  clear e0 er e1 e2
  generalize ((((w.alloc (.cells #[.slice p0 l.length c0] 25)).alloc (.cells #[.int .i64 0, .int .i64 0, .slice none 0 0] 24)).alloc (.cells #[.int .i64 0] 3)).alloc (.cells #[.bool true] 4)) = W0 at *
  refine (number_any w l _ b0 b1 b2 0 true W0 (HD.out.cur HB.out HR.out) HL.out).mono ?_
  rintro e w1 ⟨rfl, rfl⟩
  have HD1 := hid' (HD.out.next HB.out (numN l 0) (true && numOk l 0))
  generalize curNext W0 b1 b2 (numN l 0) (true && numOk l 0) = W1 at *
  clear HD
  go_wp2_with fail
  refine (number_any w l _ b0 b1 b2 _ _ W1 (HD1.out.cur HB.out HR.out) HL.out).mono ?_
  rintro e w1 ⟨rfl, rfl⟩
  have HD2 := hid' (HD1.out.next HB.out (numN l (numN l 0)) ((true && numOk l 0) && numOk l (numN l 0)))
  generalize curNext W1 b1 b2 (numN l (numN l 0)) ((true && numOk l 0) && numOk l (numN l 0)) = W2 at *
  clear HD1
  go_wp2_with fail
  have HQ0 := hid' (DecQ.start HD2.out HB.out (numV l 0) (numV l (numN l 0)))
  obtain ⟨pb, hpb⟩ : ∃ b, b = W2.heap.size := ⟨_, rfl⟩
  rw [← hpb] at HQ0 ⊢
  generalize W2.alloc (.cells #[.int .i64 (numV l 0), .int .i64 (numV l (numN l 0)), .slice none 0 0] 24) = W3 at *
  clear hpb HD2
  refine (number_any w l _ b0 b1 b2 _ _ W3 (HQ0.out.dw.cur HB.out HR.out) HL.out).mono ?_
  rintro e w1 ⟨rfl, hw⟩
  have HQ1 := hid' (HQ0.out.next HB.out hw)
  have HP0 := hid' (DecP.start l)
  have hn1 := numV_in l (numN l (numN l 0))
  obtain ⟨n, hn⟩ : ∃ n, Hid (n = numV l (numN l (numN l 0))) := ⟨_, rfl⟩
  rw [← hn.out] at hn1 ⊢
  clear HQ0 hw
  generalize (((true && numOk l 0) && numOk l (numN l 0)) && numOk l (numN l (numN l 0))) = g3 at *
  generalize numN l (numN l (numN l 0)) = a3 at HQ1 HP0
  go_wp2_with fail
  go_loopw [10] (fun iv wr => ∃ (i : Nat) (L : List Leg) (lv : Value) (a : Nat) (g : Bool), iv = .int .i64 (i : Int) ∧ i ≤ 65 ∧ Hid (DecQ w (.slice p0 l.length c0) b0 rb b1 b2 pb (numV l 0) (numV l (numN l 0)) lv L a g wr) ∧ Hid (DecP l i L a g)) (fun iv _ => 65 - (intOf iv).toNat)
  case atStart => exact ⟨0, [], _, a3, g3, rfl, by omega, HQ1, HP0⟩
  case round =>
    obtain ⟨i, L, lv, a, g, rfl, hi65, HQ, HP⟩ := hrel
    have kg := cell_of_one HQ.out.dw.k2
    by_cases ht : (i : Int) < n ∧ i < 65 ∧ g = true
    · obtain ⟨t1, t2, rfl⟩ := ht
      have g0 : decide ((i : Int) < n) = true := by simp; omega
      have g1 : decide ((i : Int) < 65) = true := by simp; omega
      have HP2 := hid' (DecP.step HP.out t2 (by rw [← hn.out]; exact t1))
      have HI := hid' t2
      have HLN := hid' (show L.length + 1 ≤ 1000 by rw [HP.out.len]; omega)
      clear t1 t2
      --<<
      go_upto_region 9 with (fail)
      · have hD := hid' HQ.out.drew
        have hpc := hD.out.cell
        go_region_law (first | (refine step_leg rfl _ _ (by rfl) (pb + 1) lv L (by rfl) hD.out.own (legV l a) (by rfl) HLN.out (lt_of_block hD.out.kp) ?_; intro v' w5 h5 h6; have hA := hD.out.append HB.out h5 h6; obtain ⟨p5, c5, rfl⟩ := LegRow.form h5; have hpc := hA.1; have hpf := hA.2.1) | (refine step_closure rfl _ (by rfl) 34 _ (by rfl) (call_text _ _) _ _ (text_any w l _ b0 b1 b2 _ _ _ (hD.out.dw.cur HB.out HR.out) HL.out) ?_; intro wn hw; have hD := hid' (hD.out.next HB.out hw); clear hw; have hpc := hD.out.cell; have hpa := fun o => alloc_cell hpc o) | (refine step_closure rfl _ (by rfl) 32 _ (by rfl) (call_number _ _) _ _ (number_any w l _ b0 b1 b2 _ _ _ (hD.out.dw.cur HB.out HR.out) HL.out) ?_; intro wn hw; have hD := hid' (hD.out.next HB.out hw); clear hw; have hpc := hD.out.cell; have hpa := fun o => alloc_cell hpc o))
        all_goals go_wp2_with fail
        all_goals have HQ2 := hid' hA.2.2
        all_goals rw [show (L ++ [legV l a]).length = L.length + 1 from by simp] at HQ2
        all_goals
          go_roundw
          case rel => exact ⟨i + 1, _, _, _, _, by go_num, by have := HI.out; omega, HQ2, HP2⟩
          case measure => have := HI.out; simp [intOf]; omega
      -->>
    · obtain ⟨pl, cl, rfl⟩ := LegRow.form HQ.out.own
      have hr0 := cells_of3 HQ.out.dw.kr
      have hp0 := cells_of3 HQ.out.kp
      obtain ⟨r0, r1, r2, rf⟩ := hr0
      obtain ⟨q0, q1, q2, qf⟩ := hp0
      have rf0 := rf 0
      have rf1 := rf 1
      have rf2 := rf 2
      cases g with
      | false =>
        have HE := hid' (HP.out.fails rfl)
        clear ht q0 q1 q2 qf rf
        by_cases h1 : (i : Int) < n
        · have g0 : decide ((i : Int) < n) = true := by simp; omega
          by_cases h2 : (i : Int) < 65
          · have g1 : decide ((i : Int) < 65) = true := by simp; omega
            go_wp2_with fail
            refine bodyPost_ret (v := .tuple #[.agg #[.int .i64 0, .int .i64 0, .slice none 0 0], .int .i64 200]) ?_ rfl ?_
            · simp [results, Tryd.results13, go_sem, r0, r1, r2]
            · exact dec_bad HE.out HQ.out.dw.bel HB.out
          · have g1 : decide ((i : Int) < 65) = false := by simp; omega
            go_wp2_with fail
            refine bodyPost_ret (v := .tuple #[.agg #[.int .i64 0, .int .i64 0, .slice none 0 0], .int .i64 200]) ?_ rfl ?_
            · simp [results, Tryd.results13, go_sem, r0, r1, r2]
            · exact dec_bad HE.out HQ.out.dw.bel HB.out
        · have g0 : decide ((i : Int) < n) = false := by simp; omega
          go_wp2_with fail
          refine bodyPost_ret (v := .tuple #[.agg #[.int .i64 0, .int .i64 0, .slice none 0 0], .int .i64 200]) ?_ rfl ?_
          · simp [results, Tryd.results13, go_sem, r0, r1, r2]
          · exact dec_bad HE.out HQ.out.dw.bel HB.out
      | true =>
        have HED := hid' (HP.out.ends (by rw [← hn.out]; intro h; exact ht ⟨h.1, h.2, rfl⟩))
        rw [← hn.out] at HED
        have kh := cell_of_one HQ.out.dw.k0
        have ka := cell_of_one HQ.out.dw.k1
        have hlt : ¬ ((i : Int) < n ∧ (i : Int) < 65) := fun h => ht ⟨h.1, by omega, rfl⟩
        have l1 : (L.length : Int) ≤ 65 := by rw [HP.out.len]; omega
        have l2 : (l.length : Int) ≤ 140737488355300 := by have := HL.out; omega
        have HRT := hid' (right_any ⟨numV l 0, numV l (numN l 0), L⟩ (.slice pl L.length cl) wr (HQ.out.own.legs HP.out.fits) (numV_in l 0) (numV_in l (numN l 0)))
        clear ht rf qf
        by_cases ha : a = l.length
        · subst ha
          by_cases hln : n = (L.length : Int)
          · have HNL := hid' hln
            have g5 : (n != (L.length : Int)) = false := by rw [bne_eq_false_iff_eq]; exact hln
            have gl : ((i : Int) < n) = False := by
              have := HP.out.len
              simp; omega
            have g0 : decide ((i : Int) < n) = false := by simp; have := HP.out.len; omega
            clear hlt hln gl
            cases hri : right ⟨numV l 0, numV l (numN l 0), L⟩ with
            | false =>
              have HE := hid' (show dec l = none by rw [HED.out, if_neg (by rintro ⟨_, _, h⟩; rw [hri] at h; cases h)])
              rw [hri] at HRT
              clear hri HED
              go_wp2_with fail
              refine HRT.out.mono ?_
              rintro e w9 ⟨rfl, b9⟩
              have r0 := keep_all b9 _ _ r0
              have r1 := keep_all b9 _ _ r1
              have r2 := keep_all b9 _ _ r2
              have HB9 := hid' (Below.more HQ.out.dw.bel b9)
              have HFZ := hid' (fun o => (b9.frozen (p := ⟨rb, o, none⟩) (lt_of_block HQ.out.dw.kr)).trans ((cells_of3 HQ.out.dw.kr).2.2.2 o))
              have rf0 := HFZ.out 0
              have rf1 := HFZ.out 1
              have rf2 := HFZ.out 2
              go_wp2_with fail
              refine bodyPost_ret (v := .tuple #[.agg #[.int .i64 0, .int .i64 0, .slice none 0 0], .int .i64 200]) ?_ rfl ?_
              · simp [results, Tryd.results13, go_sem, r0, r1, r2]
              · exact dec_bad HE.out HB9.out HB.out
            | true =>
              have HE := hid' (show dec l = some ⟨numV l 0, numV l (numN l 0), L⟩ by rw [HED.out, if_pos ⟨rfl, HNL.out, hri⟩])
              rw [hri] at HRT
              clear hri HED
              go_wp2_with fail
              refine HRT.out.mono ?_
              rintro e w9 ⟨rfl, b9⟩
              have r0 := keep_all b9 _ _ r0
              have r1 := keep_all b9 _ _ r1
              have r2 := keep_all b9 _ _ r2
              have q0 := keep_all b9 _ _ q0
              have q1 := keep_all b9 _ _ q1
              have q2 := keep_all b9 _ _ q2
              have HB9 := hid' (Below.more HQ.out.dw.bel b9)
              have HFZ := hid' (fun o => (b9.frozen (p := ⟨rb, o, none⟩) (lt_of_block HQ.out.dw.kr)).trans ((cells_of3 HQ.out.dw.kr).2.2.2 o))
              have rf0 := HFZ.out 0
              have rf1 := HFZ.out 1
              have rf2 := HFZ.out 2
              have HLG := hid' (LegRow.ofBlock HQ.out.own (fun k _ hk => b9.block k hk))
              clear b9
              go_wp2_with fail
              refine bodyPost_ret (v := .tuple #[.agg #[.int .i64 (numV l 0), .int .i64 (numV l (numN l 0)), .slice pl L.length cl], .int .i64 0]) ?_ rfl ?_
              · simp [results, Tryd.results13, go_sem, r0, r1, r2]
              · exact dec_good HE.out HB9.out HB.out HQ.out.hp HLG.out HP.out.fits
          · have HE := hid' (show dec l = none by rw [HED.out, if_neg (by rintro ⟨_, h, _⟩; exact hln h)])
            have g5 : (n != (L.length : Int)) = true := by rw [bne_iff_ne]; exact hln
            clear HED hln
            by_cases h1 : (i : Int) < n
            · have g0 : decide ((i : Int) < n) = true := by simp; omega
              have g1 : decide ((i : Int) < 65) = false := by simp; omega
              go_wp2_with fail
              refine bodyPost_ret (v := .tuple #[.agg #[.int .i64 0, .int .i64 0, .slice none 0 0], .int .i64 200]) ?_ rfl ?_
              · simp [results, Tryd.results13, go_sem, r0, r1, r2]
              · exact dec_bad HE.out HQ.out.dw.bel HB.out
            · have g0 : decide ((i : Int) < n) = false := by simp; omega
              go_wp2_with fail
              refine bodyPost_ret (v := .tuple #[.agg #[.int .i64 0, .int .i64 0, .slice none 0 0], .int .i64 200]) ?_ rfl ?_
              · simp [results, Tryd.results13, go_sem, r0, r1, r2]
              · exact dec_bad HE.out HQ.out.dw.bel HB.out
        · have HE := hid' (show dec l = none by rw [HED.out, if_neg (by rintro ⟨h, _⟩; exact ha h)])
          have g4 : ((a : Int) != (l.length : Int)) = true := by rw [bne_iff_ne]; omega
          have g4' : (a != l.length) = true := by rw [bne_iff_ne]; exact ha
          clear HED
          by_cases h1 : (i : Int) < n
          · have g0 : decide ((i : Int) < n) = true := by simp; omega
            have g1 : decide ((i : Int) < 65) = false := by simp; omega
            go_wp2_with fail
            refine bodyPost_ret (v := .tuple #[.agg #[.int .i64 0, .int .i64 0, .slice none 0 0], .int .i64 200]) ?_ rfl ?_
            · simp [results, Tryd.results13, go_sem, r0, r1, r2]
            · exact dec_bad HE.out HQ.out.dw.bel HB.out
          · have g0 : decide ((i : Int) < n) = false := by simp; omega
            go_wp2_with fail
            refine bodyPost_ret (v := .tuple #[.agg #[.int .i64 0, .int .i64 0, .slice none 0 0], .int .i64 200]) ?_ rfl ?_
            · simp [results, Tryd.results13, go_sem, r0, r1, r2]
            · exact dec_bad HE.out HQ.out.dw.bel HB.out
end Go.Proofs.YtmmbhmlhenpgbaaDoor
