/- Proved: lemmas and contracts of the functions that the law reaches, part 3 of 28: AnyHead. Conditions: as each states. -/
import Derived.StillTail
import Derived.TacticsIn
import Derived.OrdersIn
namespace Go.Proofs.YtcpobnknmegkmaaGreatDoor

set_option linter.unusedVariables false
set_option linter.unusedSimpArgs false
section
variable {F : Fence} {n : Nat} {P : Program} {ops : Array Oper} {Q : Exit → Act → World → Prop} {md : Region.Mode}
/-- The frame while some of a region's first operations have run: V says what they all leave, D which of them fills a slot. -/
structure HeadSt (D : Nat → Option Nat) (V : Array Value) (a0 : Act) (listed : Array Bool) (a : Act) : Prop where
  size : a.tmps.size = V.size
  defers : a.defers = a0.defers
  done : ∀ t i, D t = some i → listed.getD i false = true → a.tmps.getD t undef = V.getD t undef
  rest : ∀ t, D t = none → a.tmps.getD t undef = V.getD t undef
/-- What is asked of one of the first operations. -/
structure HeadOp (F : Fence) (P : Program) (ops : Array Oper) (md : Region.Mode) (D : Nat → Option Nat) (V : Array Value) (a0 : Act) (w : World) (i : Nat) (o : Oper) (d : Nat) : Prop where
  at' : ops[i]? = some o
  guard : o.guard = none
  dst : o.dst = some d
  lt : d < V.size
  own : D d = some i
  only : ∀ t, D t = some i → t = d
  low : ∀ e ∈ o.after, Region.binds md e = true → e.on < i
  run : ∀ (listed : Array Bool) (a : Act), HeadSt D V a0 listed a → (∀ e ∈ o.after, Region.binds md e = true → listed.getD e.on false = true) →
    (∀ f, o.about P w a.eval = some f → F.fn f) ∧ (o.semAt F.round a.eval).run P w = .ok (.value (V.getD d undef)) w
theorem HeadSt.put {D : Nat → Option Nat} {V : Array Value} {a0 : Act} {listed : Array Bool} {a : Act} (h : HeadSt D V a0 listed a) {i d : Nat} (hd : d < V.size) (ho : D d = some i) (hu : ∀ t, D t = some i → t = d) :
    HeadSt D V a0 (listed.setIfInBounds i true) (a.put (some d) (V.getD d undef)) := by
  refine ⟨by simp [Act.put, h.size], h.defers, fun t j hj hl => ?_, fun t ht => ?_⟩
  · by_cases e : t = d
    · subst e
      simp [Act.put, h.size, hd]
    · have hij : i ≠ j := fun e' => e (hu t (by rw [hj, e']))
      rw [getD_set_ne false hij] at hl
      have := h.done t j hj hl
      rw [Array.getD_eq_getD_getElem?] at this ⊢
      simp only [Act.put]
      rw [Array.getElem?_setIfInBounds_ne (fun e' => e e'.symm)]
      exact this
  · have e : d ≠ t := by rintro rfl; rw [ho] at ht; cases ht
    have := h.rest t ht
    rw [Array.getD_eq_getD_getElem?] at this ⊢
    simp only [Act.put]
    rw [Array.getElem?_setIfInBounds_ne e]
    exact this
/-- How many of the first m are still to come. -/
def toCome (m : Nat) (listed : Array Bool) : Nat := ((List.range m).filter fun i => !listed.getD i false).length
theorem toCome_zero {m : Nat} {listed : Array Bool} (h : toCome m listed = 0) (i : Nat) (hi : i < m) : listed.getD i false = true := by
  unfold toCome at h
  have := List.length_eq_zero_iff.1 h
  rw [List.filter_eq_nil_iff] at this
  have h2 := this i (List.mem_range.2 hi)
  cases hb : listed.getD i false
  · rw [hb] at h2; simp at h2
  · rfl
theorem filter_set (l : List Nat) (hn : l.Nodup) (p q : Nat → Bool) (i : Nat) (hi : i ∈ l) (hp : p i = true) (hq : q i = false) (h : ∀ j, j ≠ i → q j = p j) : (l.filter p).length = (l.filter q).length + 1 := by
  induction l with
  | nil => cases hi
  | cons x t ih =>
    obtain ⟨hx, ht⟩ := List.nodup_cons.1 hn
    rcases List.mem_cons.1 hi with e | hi'
    · subst e
      have e2 : t.filter p = t.filter q := List.filter_congr fun j hj => (h j (by rintro rfl; exact hx hj)).symm
      simp [List.filter_cons, hp, hq, e2]
    · have hne : x ≠ i := by rintro rfl; exact hx hi'
      have e1 := ih ht hi'
      rw [List.filter_cons, List.filter_cons, h x hne]
      split
      · simp [e1]
      · exact e1
theorem toCome_set {m i : Nat} {listed : Array Bool} (hi : i < m) (hs : i < listed.size) (hu : listed.getD i false = false) : toCome m listed = toCome m (listed.setIfInBounds i true) + 1 := by
  unfold toCome
  refine filter_set _ List.nodup_range _ _ i (List.mem_range.2 hi) (by simp only [hu]; rfl) ?_ (fun j hj => ?_)
  · have : (listed.setIfInBounds i true).getD i false = true := by simp [hs]
    simp only [this]; rfl
  · simp only [getD_set_ne false (fun e => hj e.symm)]
/-- One of the first m may come up, as long as one is to come. -/
theorem some_ready {m : Nat} {listed : Array Bool} (hsz : listed.size = ops.size) (hlow : ∀ i, i < m → ∃ o, ops[i]? = some o ∧ ∀ e ∈ o.after, Region.binds md e = true → e.on < i) :
    ∀ i, i < m → listed.getD i false = false → ∃ j, j ∈ Region.ready md ops listed := by
  intro i
  induction i using Nat.strongRecOn with
  | _ i ih =>
    intro hi hu
    obtain ⟨o, ho, hl⟩ := hlow i hi
    by_cases h : ∀ e ∈ o.after, Region.binds md e = true → listed.getD e.on false = true
    · have : i < ops.size := (Array.getElem?_eq_some_iff.1 ho).1
      exact ⟨i, mem_ready.2 ⟨getD_in (by omega) hu, o, ho, h⟩⟩
    · simp only [Classical.not_forall] at h
      obtain ⟨e, he, hb, hne⟩ := h
      exact ih e.on (hl e he hb) (by have := hl e he hb; omega) (by simpa using hne)
theorem anyIn_seq : ∀ (l : List Oper) (k : Nat) (listed : Array Bool) (a : Act) (w : World), (∀ j, l[j]? = ops[k + j]?) → Region.seqB md ops l.length k listed = true → wpListIn F n P ops Q l a w → wpAnyIn F n P md ops Q l.length listed a w
  | [], _, _, _, _, _, hB, h => ⟨by simpa [Region.seqB] using hB, h⟩
  | o :: l, k, listed, a, w, hl, hB, h => by
    have h0 : ops[k]? = some o := by simpa using (hl 0).symm
    simp only [List.length_cons, Region.seqB, Bool.and_eq_true, decide_eq_true_eq] at hB
    refine ⟨fun h1 => (by rw [hB.1] at h1; cases h1), fun i hi => ?_⟩
    rw [hB.1, List.mem_singleton] at hi
    subst hi
    refine wpOpIn_mono (fun a' w' h' => anyIn_seq l (i + 1) _ a' w' (fun j => by have := hl (j + 1); simpa [Nat.add_assoc, Nat.add_comm 1 j] using this) hB.2 h') ?_
    unfold wpOpIn
    simp only [h0]
    exact h
theorem anyIn_head {w : World} {D : Nat → Option Nat} {V : Array Value} {a0 : Act} {m : Nat} (hs : Region.sinkB md ops m = true) (hc : Region.chainB md ops m = true) (hm : m < ops.size) (hD : ∀ t i, D t = some i → i < m)
    (hop : ∀ i, i < m → ∃ o d, HeadOp F P ops md D V a0 w i o d)
    (hseq : Region.seqB md ops (ops.size - m) m (Array.replicate m true ++ Array.replicate (ops.size - m) false) = true)
    (htail : wpListIn F n P ops Q (ops.toList.drop m) { a0 with tmps := V } w) :
    ∀ (f : Nat) (listed : Array Bool) (a : Act), toCome m listed = f → HeadInv md ops m listed → HeadSt D V a0 listed a → wpAnyIn F n P md ops Q (f + (ops.size - m)) listed a w := by
  intro f
  induction f with
  | zero =>
    intro listed a hf inv hS
    have hall := toCome_zero hf
    have e1 : listed = Array.replicate m true ++ Array.replicate (ops.size - m) false := by
      apply Array.ext
      · rw [inv.size]; simp; omega
      · intro i h1 h2
        have hio : i < ops.size := by rw [← inv.size]; exact h1
        by_cases hi : i < m
        · have := hall i hi
          rw [Array.getElem_append_left (by simpa using hi)]
          simpa [Array.getD_eq_getD_getElem?, h1] using this
        · have := inv.tail i (by omega) hio
          rw [Array.getElem_append_right (by simpa using hi)]
          simpa [Array.getD_eq_getD_getElem?, h1] using this
    have e2 : a = { a0 with tmps := V } := by
      obtain ⟨tm, df⟩ := a
      have hd := hS.defers
      have ht : tm = V := by
        refine Array.ext hS.size (fun t h1 h2 => ?_)
        have : tm.getD t undef = V.getD t undef := by
          cases hDt : D t with
          | none => exact hS.rest t hDt
          | some i => exact hS.done t i hDt (hall i (hD t i hDt))
        simpa [Array.getD_eq_getD_getElem?, h1, h2] using this
      simp only at hd
      rw [ht, hd]
    rw [Nat.zero_add]
    have hl : (ops.toList.drop m).length = ops.size - m := by simp
    rw [← hl]
    refine anyIn_seq (ops.toList.drop m) m listed a w (fun j => by simp [List.getElem?_drop]) ?_ (by rw [e2]; exact htail)
    rw [hl, e1]
    exact hseq
  | succ f ih =>
    intro listed a hf inv hS
    have hex : ∃ i, i < m ∧ listed.getD i false = false := by
      refine Classical.byContradiction fun hno => ?_
      have h0 : toCome m listed = 0 := by
        unfold toCome
        rw [List.length_eq_zero_iff, List.filter_eq_nil_iff]
        intro i hi
        have h1 : ¬ listed.getD i false = false := fun e => hno ⟨i, List.mem_range.1 hi, e⟩
        simp only [Bool.not_eq_false] at h1
        simp only [h1]; decide
      omega
    obtain ⟨i0, hi0, hu0⟩ := hex
    rw [show f + 1 + (ops.size - m) = (f + (ops.size - m)) + 1 by omega]
    refine ⟨fun h0 => ?_, fun i hi => ?_⟩
    · obtain ⟨j, hj⟩ := some_ready inv.size (fun i hi => by obtain ⟨o, d, h⟩ := hop i hi; exact ⟨o, h.at', h.low⟩) i0 hi0 hu0
      rw [h0] at hj; cases hj
    · have him : i < m := by
        rcases Nat.lt_or_ge i m with h | h
        · exact h
        · exact absurd hi (tail_waits hs hc hm inv _ i0 rfl hi0 (getD_in (by rw [inv.size]; omega) hu0) i h)
      obtain ⟨o, d, h⟩ := hop i him
      obtain ⟨hun, o', ho', haf⟩ := mem_ready.1 hi
      obtain rfl : o = o' := Option.some.inj (h.at'.symm.trans ho')
      obtain ⟨hab, hrun⟩ := h.run listed a hS haf
      have hlt : i < listed.size := by rw [inv.size]; omega
      unfold wpOpIn
      simp only [h.at']
      rw [show Region.wanted o (yielded ops a.tmps) = true by simp [Region.wanted, h.guard]]
      rw [if_pos rfl]
      unfold Oper.wpIn
      refine ⟨hab, ?_⟩
      rw [hrun]
      show wpAnyIn F n P md ops Q (f + (ops.size - m)) (listed.setIfInBounds i true) (a.put o.dst (V.getD d undef)) w
      rw [h.dst]
      refine ih _ _ ?_ (inv.set hi him) (hS.put h.lt h.own h.only)
      have := toCome_set him hlt (getD_both hun)
      omega
/-- A region that draws: its first m operations leave the world alone. -/
theorem regionIn_head {id : Nat} {w : World} {l : List Oper} {a : Act} {D : Nat → Option Nat} {V : Array Value} (m : Nat) (hmo : P.follows .mixedOrders = true) (hs : Region.sinkB .any l.toArray m = true) (hc : Region.chainB .any l.toArray m = true) (hm : m < l.length) (hD : ∀ t i, D t = some i → i < m)
    (hsz : a.tmps.size = V.size) (hrest : ∀ t, D t = none → a.tmps.getD t undef = V.getD t undef)
    (hop : ∀ i, i < m → ∃ o d, HeadOp F P l.toArray .any D V a w.drew i o d)
    (hseq : Region.seqB .any l.toArray (l.length - m) m (Array.replicate m true ++ Array.replicate (l.length - m) false) = true)
    (htail : wpListIn F n P l.toArray Q (l.drop m) { a with tmps := V } w.drew) : (Code.region id l.toArray true).wpIn F n P Q a w := by
  refine wpIn_region_any hmo ?_
  have hl : l.toArray.size = l.length := by simp
  have inv0 : HeadInv .any l.toArray m (Array.replicate l.toArray.size false) :=
    ⟨by simp, fun j oj _ hl => (by rw [getD_replicate_false] at hl; cases hl), fun t _ ht => getD_in (by simpa using ht) (getD_replicate_false _ _)⟩
  have h0 : toCome m (Array.replicate l.toArray.size false) = m := by
    unfold toCome
    rw [List.filter_eq_self.2 (fun i _ => by simp only [getD_replicate_false]; rfl)]
    simp
  have := anyIn_head (F := F) (n := n) (Q := Q) (w := w.drew) hs hc (by rw [hl]; exact hm) hD hop (by rw [hl]; exact hseq) (by simpa using htail) m _ a h0 inv0
    ⟨hsz, rfl, fun t i _ hli => (by rw [getD_replicate_false] at hli; cases hli), hrest⟩
  rw [hl, show m + (l.length - m) = l.length by omega] at this
  rw [hl]
  exact this
/-- The slots that the first operations fill, one by one. -/
def fillSlots (t : Array Value) (vs : List (Nat × Value)) : Array Value := vs.foldl (fun t x => t.setIfInBounds x.1 x.2) t
theorem fillSlots_size (vs : List (Nat × Value)) : ∀ t : Array Value, (fillSlots t vs).size = t.size := by
  induction vs with
  | nil => intro t; rfl
  | cons x l ih => intro t; show (fillSlots (t.setIfInBounds x.1 x.2) l).size = _; rw [ih]; simp
theorem fillSlots_other (vs : List (Nat × Value)) (k : Nat) (h : ∀ p ∈ vs, p.1 ≠ k) : ∀ t : Array Value, (fillSlots t vs).getD k undef = t.getD k undef := by
  induction vs with
  | nil => intro t; rfl
  | cons x l ih =>
    intro t
    show (fillSlots (t.setIfInBounds x.1 x.2) l).getD k undef = _
    rw [ih (fun p hp => h p (List.mem_cons_of_mem _ hp)), Array.getD_eq_getD_getElem?, Array.getD_eq_getD_getElem?, Array.getElem?_setIfInBounds_ne (h x (List.mem_cons_self ..))]
theorem fillSlots_at : ∀ (vs : List (Nat × Value)) (t : Array Value) (i d : Nat) (v : Value), (vs.map (·.1)).Nodup → vs[i]? = some (d, v) → d < t.size → (fillSlots t vs).getD d undef = v
  | [], _, _, _, _, _, h, _ => by simp at h
  | x :: l, t, 0, d, v, hn, h, hd => by
    simp at h
    subst h
    obtain ⟨hx, _⟩ := List.nodup_cons.1 (show ((d : Nat) :: l.map (·.1)).Nodup from hn)
    show (fillSlots (t.setIfInBounds d v) l).getD d undef = v
    rw [fillSlots_other l d (fun p hp e => hx (by rw [← e]; exact List.mem_map_of_mem hp))]
    simp [hd]
  | x :: l, t, i + 1, d, v, hn, h, hd => by
    obtain ⟨_, hn'⟩ := List.nodup_cons.1 (show ((x.1 : Nat) :: l.map (·.1)).Nodup from hn)
    exact fillSlots_at l (t.setIfInBounds x.1 x.2) i d v hn' (by simpa using h) (by simpa using hd)
/-- Which of the first operations fills a slot. -/
def slotOf : List (Nat × Value) → Nat → Option Nat
  | [], _ => none
  | x :: l, t => if x.1 = t then some 0 else (slotOf l t).map (· + 1)
theorem slotOf_some : ∀ (vs : List (Nat × Value)) (t i : Nat), slotOf vs t = some i → ∃ v, vs[i]? = some (t, v)
  | [], _, _, h => by cases h
  | x :: l, t, i, h => by
    unfold slotOf at h
    split at h
    · rename_i e
      obtain rfl := Option.some.inj h
      subst e
      exact ⟨x.2, rfl⟩
    · obtain ⟨j, hj, rfl⟩ := Option.map_eq_some_iff.1 h
      obtain ⟨v, hv⟩ := slotOf_some l t j hj
      exact ⟨v, by simpa using hv⟩
theorem slotOf_at : ∀ (vs : List (Nat × Value)) (t i : Nat) (v : Value), (vs.map (·.1)).Nodup → vs[i]? = some (t, v) → slotOf vs t = some i
  | [], _, _, _, _, h => by simp at h
  | x :: l, t, 0, v, hn, h => by
    simp at h; subst h
    simp [slotOf]
  | x :: l, t, i + 1, v, hn, h => by
    obtain ⟨hx, hn'⟩ := List.nodup_cons.1 (show ((x.1 : Nat) :: l.map (·.1)).Nodup from hn)
    have h' : l[i]? = some (t, v) := by simpa using h
    have hne : x.1 ≠ t := by
      rintro rfl
      exact hx (List.mem_map.2 ⟨(x.1, v), List.mem_of_getElem? h', rfl⟩)
    unfold slotOf
    rw [if_neg hne, slotOf_at l t i v hn' h']
    rfl
theorem slotOf_none (vs : List (Nat × Value)) (t : Nat) (h : slotOf vs t = none) : ∀ p ∈ vs, p.1 ≠ t := by
  induction vs with
  | nil => intro p hp; cases hp
  | cons x l ih =>
    intro p hp
    unfold slotOf at h
    split at h
    · cases h
    · rename_i hne
      rcases List.mem_cons.1 hp with e | hp'
      · subst e; exact hne
      · exact ih (by simpa using h) p hp'
/-- A region that draws: its first operations, which leave the values vs, leave the world alone. -/
theorem regionIn_still {id : Nat} {w : World} {l : List Oper} {a : Act} (vs : List (Nat × Value)) (hmo : P.follows .mixedOrders = true) (hs : Region.sinkB .any l.toArray vs.length = true) (hc : Region.chainB .any l.toArray vs.length = true) (hm : vs.length < l.length)
    (hnd : (vs.map (·.1)).Nodup) (hin : ∀ p ∈ vs, p.1 < a.tmps.size)
    (hseq : Region.seqB .any l.toArray (l.length - vs.length) vs.length (Array.replicate vs.length true ++ Array.replicate (l.length - vs.length) false) = true)
    (hop : ∀ i d v, vs[i]? = some (d, v) → ∃ o, l[i]? = some o ∧ o.guard = none ∧ o.dst = some d ∧ (∀ e ∈ o.after, Region.binds .any e = true → e.on < i) ∧
      ∀ a' : Act, (∀ j t u, vs[j]? = some (t, u) → (∃ e ∈ o.after, Region.binds .any e = true ∧ e.on = j) → a'.eval (.tmp t) = u) → (∀ t, (∀ p ∈ vs, p.1 ≠ t) → a'.eval (.tmp t) = a.eval (.tmp t)) →
        (∀ f, o.about P w.drew a'.eval = some f → F.fn f) ∧ (o.semAt F.round a'.eval).run P w.drew = .ok (.value v) w.drew)
    (htail : wpListIn F n P l.toArray Q (l.drop vs.length) { a with tmps := fillSlots a.tmps vs } w.drew) : (Code.region id l.toArray true).wpIn F n P Q a w := by
  refine regionIn_head (D := slotOf vs) (V := fillSlots a.tmps vs) vs.length hmo hs hc hm (fun t i h => ?_) (fillSlots_size vs _).symm (fun t ht => (fillSlots_other vs t (slotOf_none vs t ht) _).symm) (fun i hi => ?_) hseq htail
  · obtain ⟨v, hv⟩ := slotOf_some vs t i h
    exact (List.getElem?_eq_some_iff.1 hv).1
  · obtain ⟨⟨d, v⟩, hv⟩ : ∃ x, vs[i]? = some x := ⟨_, List.getElem?_eq_getElem hi⟩
    obtain ⟨o, h1, h2, h3, h4, h5⟩ := hop i d v hv
    have hd := hin (d, v) (List.mem_of_getElem? hv)
    refine ⟨o, d, by simpa using h1, h2, h3, by rw [fillSlots_size]; exact hd, slotOf_at vs d i v hnd hv, fun t ht => ?_, h4, fun listed a' hS hl => ?_⟩
    · obtain ⟨u, hu⟩ := slotOf_some vs t i ht
      rw [hv] at hu
      exact (Prod.mk.inj (Option.some.inj hu)).1.symm
    · rw [fillSlots_at vs _ i d v hnd hv hd]
      refine h5 a' (fun j t u hj he => ?_) (fun t ht => ?_)
      · obtain ⟨e, he1, he2, rfl⟩ := he
        show a'.tmps.getD t undef = u
        rw [hS.done t e.on (slotOf_at vs t e.on u hnd hj) (hl e he1 he2)]
        exact fillSlots_at vs _ e.on t u hnd hj (hin (t, u) (List.mem_of_getElem? hj))
      · show a'.tmps.getD t undef = a.tmps.getD t undef
        have hno : slotOf vs t = none := by
          cases hsl : slotOf vs t with
          | none => rfl
          | some j => obtain ⟨u, hu⟩ := slotOf_some vs t j hsl; exact absurd rfl (ht (t, u) (List.mem_of_getElem? hu))
        rw [hS.rest t hno, fillSlots_other vs t ht]
theorem after_low {o : Oper} {i : Nat} (h : o.after.all (fun e => !Region.binds .any e || decide (e.on < i)) = true) : ∀ e ∈ o.after, Region.binds .any e = true → e.on < i := by
  intro e he hb
  have := Array.all_eq_true_iff_forall_mem.1 h e he
  rw [hb] at this
  simpa using this
theorem after_has {o : Oper} {j : Nat} (h : o.after.any (fun e => Region.binds .any e && e.on == j) = true) : ∃ e ∈ o.after, Region.binds .any e = true ∧ e.on = j := by
  obtain ⟨e, he, hb⟩ := Array.any_eq_true'.1 h
  simp only [Bool.and_eq_true, beq_iff_eq] at hb
  exact ⟨e, he, hb.1, hb.2⟩
end
end Go.Proofs.YtcpobnknmegkmaaGreatDoor
