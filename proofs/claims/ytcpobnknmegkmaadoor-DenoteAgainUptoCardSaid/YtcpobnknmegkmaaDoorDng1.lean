/- Proved: lemmas and contracts of the functions that the law reaches, part 1 of 4: KeepPlan. Conditions: as each states. -/
import Derived.Test.YtcpobnknmegkmaaDoorDnl1
namespace Go.Proofs.YtcpobnknmegkmaaDoor
open Go.RowKit
set_option linter.unusedVariables false
set_option linter.unusedSimpArgs false
section
variable {P : Program} {ops : Array Oper} {md : Region.Mode} {Fact : World → Prop} {Q : Act → World → Prop}
/-- How a region is walked. -/
inductive Plan where
  | nil
  | quiet (i : Nat) (r : Plan)
  | act (i : Nat) (r : Plan)
  | two (i : Nat) (r : Plan) (j : Nat) (s : Plan)
def Plan.len : Plan → Nat
  | .nil => 0
  | .quiet _ r => r.len + 1
  | .act _ r => r.len + 1
  | .two _ r _ _ => r.len + 1
def wpAct (P : Program) (l : List Oper) (Fact : World → Prop) (i : Nat) (K : Act → World → Prop) (a : Act) (w : World) : Prop := ∃ o, l[i]? = some o ∧ ActsR P l.toArray o a w (fun v w' => Fact w' ∧ K (a.put o.dst v) w')
def wpPlan (P : Program) (l : List Oper) (Fact : World → Prop) (Q : Act → World → Prop) : Plan → Act → World → Prop
  | .nil, a, w => Q a w
  | .act i r, a, w => wpAct P l Fact i (fun a' w' => wpPlan P l Fact Q r a' w') a w
  | .quiet i r, a, w => ∃ o v, l[i]? = some o ∧ QuietC P l.toArray Fact o v a ∧ wpPlan P l Fact Q r (a.put o.dst v) w
  | .two i r j s, a, w => wpAct P l Fact i (fun a' w' => wpPlan P l Fact Q r a' w') a w ∧ wpAct P l Fact j (fun a' w' => wpPlan P l Fact Q s a' w') a w
def planOk (md : Region.Mode) (ops : Array Oper) : Plan → Array Bool → Bool
  | .nil, listed => (Region.ready md ops listed).isEmpty
  | .act i r, listed => Region.ready md ops listed == [i] && planOk md ops r (listed.setIfInBounds i true)
  | .quiet i r, listed => (Region.ready md ops listed).contains i && Region.free md ops listed i && planOk md ops r (listed.setIfInBounds i true)
  | .two i r j s, listed => (Region.ready md ops listed == [i, j] && r.len == s.len) && (planOk md ops r (listed.setIfInBounds i true) && planOk md ops s (listed.setIfInBounds j true))
theorem wpAnyC_plan {l : List Oper} (hs : Region.noSelect l.toArray = true) : ∀ (p : Plan) (listed : Array Bool) (a : Act) (w : World), listed.getD l.length false = false → Fact w → planOk md l.toArray p listed = true → wpPlan P l Fact Q p a w →
    wpAnyC P md l.toArray Fact l.length Q p.len listed a w
  | .nil, listed, a, w, _, _, hB, h => by
    simp only [planOk] at hB
    exact ⟨by simpa using hB, h⟩
  | .act i r, listed, a, w, hz, hF, hB, h => by
    simp only [planOk, Bool.and_eq_true, beq_iff_eq] at hB
    obtain ⟨o, ho, h⟩ := h
    have hlt := (List.getElem?_eq_some_iff.1 ho).1
    refine ⟨fun h1 => (by rw [h1] at hB; cases hB.1), fun j hj => ?_⟩
    rw [hB.1, List.mem_singleton] at hj
    subst hj
    refine ⟨o, by simpa using ho, ActsR.mono h ?_⟩
    rintro v w' ⟨hc, hK⟩
    exact ⟨.inr hc, wpAnyC_plan hs r _ _ w' (by rw [getD_set_ne false (by omega)]; exact hz) hc hB.2 hK⟩
  | .two i r j s, listed, a, w, hz, hF, hB, h => by
    simp only [planOk, Bool.and_eq_true, beq_iff_eq] at hB
    obtain ⟨⟨hr, hlen⟩, hB1, hB2⟩ := hB
    obtain ⟨⟨o, ho, h⟩, ⟨o', ho', h'⟩⟩ := h
    have hlt := (List.getElem?_eq_some_iff.1 ho).1
    have hlt' := (List.getElem?_eq_some_iff.1 ho').1
    refine ⟨fun h1 => (by rw [h1] at hr; cases hr), fun k hk => ?_⟩
    rw [hr, List.mem_cons, List.mem_singleton] at hk
    rcases hk with rfl | rfl
    · refine ⟨o, by simpa using ho, ActsR.mono h ?_⟩
      rintro v w' ⟨hc, hK⟩
      exact ⟨.inr hc, wpAnyC_plan hs r _ _ w' (by rw [getD_set_ne false (by omega)]; exact hz) hc hB1 hK⟩
    · refine ⟨o', by simpa using ho', ActsR.mono h' ?_⟩
      rintro v w' ⟨hc, hK⟩
      have := wpAnyC_plan hs s _ _ w' (by rw [getD_set_ne false (by omega)]; exact hz) hc hB2 hK
      rw [← hlen] at this
      exact ⟨.inr hc, this⟩
  | .quiet i r, listed, a, w, hz, hF, hB, h => by
    simp only [planOk, Bool.and_eq_true] at hB
    obtain ⟨⟨hr, hf⟩, hB'⟩ := hB
    obtain ⟨o, v, ho, hq, hK⟩ := h
    have hlt := (List.getElem?_eq_some_iff.1 ho).1
    have h0 : l.toArray[i]? = some o := by simpa using ho
    exact wpAnyC_first h0 (Region.noSelect_spec hs) (by unfold waitsC; rw [show l.toArray[l.length]? = none by simp]) r.len listed a w hz hF (Region.free_spec h0 hf) (by simpa using hr) hq
      (wpAnyC_plan hs r _ _ w (by rw [getD_set_ne false (by omega)]; exact hz) hF hB' hK)
/-- The beginning of the walk. -/
theorem wp_region_plan {id : Nat} {Q' : Exit → Act → World → Prop} {a : Act} {w : World} {l : List Oper} (Fact : World → Prop) (p : Plan) (hm : P.follows .mixedOrders = true) (hsel : Region.noSelect l.toArray = true) (hB : (p.len == l.length && planOk .any l.toArray p (Array.replicate l.toArray.size false)) = true)
    (hF : Fact w.drew) (h : wpPlan P l Fact (fun a' w' => Q' .normal a' w') p a w.drew) : (Code.region id l.toArray true).wp P Q' a w := by
  rw [Bool.and_eq_true, beq_iff_eq] at hB
  have := wpAnyC_plan (md := .any) (Q := fun a' w' => Q' .normal a' w') hsel p (Array.replicate l.toArray.size false) a w.drew (by simp) hF hB.2 h
  rw [hB.1] at this
  exact wp_region_any hm (wpAny_of_C (fun a w h => h) _ _ _ _ (by simpa using this))
theorem wpPlan_nil {l : List Oper} {a : Act} {w : World} (h : Q a w) : wpPlan P l Fact Q .nil a w := h
theorem wpPlan_quiet {l : List Oper} {i : Nat} {r : Plan} {o : Oper} {a : Act} {w : World} {v : Value} (ho : l[i]? = some o) (hw : Region.wanted o (yielded l.toArray a.tmps) = true) (hv : ∀ w, Fact w → (execOp a.eval o).run P w = .ok (.value v) w)
    (h : wpPlan P l Fact Q r (a.put o.dst v) w) : wpPlan P l Fact Q (.quiet i r) a w :=
  ⟨o, v, ho, fun w hF => .inl ⟨hw, .inl ⟨v, w, hv w hF, rfl, rfl⟩⟩, h⟩
theorem wpAct_call {l : List Oper} {i : Nat} {K : Act → World → Prop} {o : Oper} {a : Act} {w : World} (f : FuncId) (args : Array Value) (R : Value → World → Prop) (ho : l[i]? = some o) (hw : Region.wanted o (yielded l.toArray a.tmps) = true) (hr : (execOp a.eval o).run P w = .ok (.enter f args) w)
    (hc : Calls P f args w (fun e w' => ∃ v, e = .returned v ∧ R v w')) (h : ∀ v w', R v w' → Fact w' ∧ K (a.put o.dst v) w') : wpAct P l Fact i K a w :=
  ⟨o, ho, ActsR.mono (.inl ⟨hw, .inr (.inr ⟨f, args, hr, hc⟩)⟩) h⟩
theorem wpAct_val {l : List Oper} {i : Nat} {K : Act → World → Prop} {o : Oper} {a : Act} {w w' : World} {v : Value} (ho : l[i]? = some o) (hw : Region.wanted o (yielded l.toArray a.tmps) = true) (hr : (execOp a.eval o).run P w = .ok (.value v) w') (hF : Fact w')
    (h : K (a.put o.dst v) w') : wpAct P l Fact i K a w :=
  ⟨o, ho, .inl ⟨hw, .inl ⟨v, w', hr, hF, h⟩⟩⟩
theorem wpAct_put {l : List Oper} {i : Nat} {K : Act → World → Prop} {o : Oper} {a : Act} {w w' : World} (ho : l[i]? = some o) (hw : Region.wanted o (yielded l.toArray a.tmps) = true) (hr : (execOp a.eval o).run P w = .ok .skip w') (hF : Fact w')
    (h : K (a.put o.dst undef) w') : wpAct P l Fact i K a w :=
  ⟨o, ho, .inl ⟨hw, .inr (.inl ⟨w', hr, hF, h⟩)⟩⟩
theorem wpPlan_act {l : List Oper} {i : Nat} {r : Plan} {a : Act} {w : World} (h : wpAct P l Fact i (fun a' w' => wpPlan P l Fact Q r a' w') a w) : wpPlan P l Fact Q (.act i r) a w := h
theorem wpPlan_two {l : List Oper} {i j : Nat} {r s : Plan} {a : Act} {w : World} (h : wpAct P l Fact i (fun a' w' => wpPlan P l Fact Q r a' w') a w) (h' : wpAct P l Fact j (fun a' w' => wpPlan P l Fact Q s a' w') a w) : wpPlan P l Fact Q (.two i r j s) a w := ⟨h, h'⟩
end
end Go.Proofs.YtcpobnknmegkmaaDoor
