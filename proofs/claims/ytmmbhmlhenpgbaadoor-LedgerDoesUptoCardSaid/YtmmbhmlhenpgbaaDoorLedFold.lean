/- Proved: the plain laws of the ledger: what its accounts hold is the sum of what stands; the reference's list of accounts is the map's; of each currency all comes to nothing; calls together are those one by one (no walk). -/
import Derived.Test.YtmmbhmlhenpgbaaDoorLedCalls
namespace Go.Proofs.YtmmbhmlhenpgbaaDoor
open Go.RowKit Go.Maps
open Led
set_option linter.unusedVariables false
set_option linter.unusedSimpArgs false
set_option maxRecDepth 100000

/-- The map of what stands. -/
noncomputable def mapOf (S : List Post) : DataW Unit := addAll (.map []) S
theorem addAll_append (D : DataW Unit) (S T : List Post) : addAll D (S ++ T) = addAll (addAll D S) T := by
  unfold addAll; rw [List.foldl_append]
theorem mapOf_append (S T : List Post) : mapOf (S ++ T) = addAll (mapOf S) T := addAll_append _ S T
theorem has_addLeg {D : DataW Unit} {x : Leg} (hD : Maps.IsMap D) (hx : Fits x) (a : Acc) : has (addLeg D x) a.k = (decide (a.p = x.party ∧ a.c = x.cur) || has D a.k) := by
  have h24 : (24 : Nat) ≤ maxLen := by decide
  have h1 := Nat.le_trans hx.party h24
  have h2 := Nat.le_trans hx.cur h24
  unfold addLeg
  by_cases h : a.p = x.party ∧ a.c = x.cur
  · have e : a.k = accK x.party x.cur := by unfold Acc.k; rw [h.1, h.2]
    rw [e, has_put_same hD (accK_is _ _ h1 h2), decide_eq_true h, Bool.true_or]
  · show has _ (accK a.p a.c) = (_ || has D (accK a.p a.c))
    rw [has_put_other (fun e => h (accK_inj a.hp a.hc h1 h2 e)), decide_eq_false h, Bool.false_or]
theorem tidy_fold : ∀ (L : List Leg) (D : DataW Unit), Maps.Tidy D → (∀ x ∈ L, Fits x) → Maps.Tidy (L.foldl addLeg D)
  | [], D, h, _ => h
  | x :: t, D, h, hL => by
    have h24 : (24 : Nat) ≤ maxLen := by decide
    have hx := hL x (List.mem_cons_self ..)
    exact tidy_fold t _ (tidy_add h x (Nat.le_trans hx.party h24) (Nat.le_trans hx.cur h24)) (fun y hy => hL y (List.mem_cons_of_mem _ hy))
theorem has_fold (a : Acc) : ∀ (L : List Leg) (D : DataW Unit), Maps.IsMap D → (∀ x ∈ L, Fits x) → has (L.foldl addLeg D) a.k = (L.any (fun x => decide (a.p = x.party ∧ a.c = x.cur)) || has D a.k)
  | [], D, h, _ => by simp
  | x :: t, D, h, hL => by
    have hx := hL x (List.mem_cons_self ..)
    rw [List.foldl_cons, has_fold a t _ (isMap_add h x) (fun y hy => hL y (List.mem_cons_of_mem _ hy)), has_addLeg h hx, List.any_cons]
    cases decide (a.p = x.party ∧ a.c = x.cur) <;> cases List.any t (fun x => decide (a.p = x.party ∧ a.c = x.cur)) <;> simp
theorem size_addLeg {D : DataW Unit} (h : Maps.Tidy D) (x : Leg) : Maps.size (addLeg D x) = if has D (accK x.party x.cur) then Maps.size D else Maps.size D + 1 := by
  unfold addLeg; rw [Maps.size_put h]
theorem size_mono : ∀ (L : List Leg) (D : DataW Unit), Maps.Tidy D → (∀ x ∈ L, Fits x) → Maps.size D ≤ Maps.size (L.foldl addLeg D)
  | [], D, h, _ => Nat.le_refl _
  | x :: t, D, h, hL => by
    have h24 : (24 : Nat) ≤ maxLen := by decide
    have hx := hL x (List.mem_cons_self ..)
    refine Nat.le_trans ?_ (size_mono t _ (tidy_add h x (Nat.le_trans hx.party h24) (Nat.le_trans hx.cur h24)) (fun y hy => hL y (List.mem_cons_of_mem _ hy)))
    rw [size_addLeg h]; split <;> omega

/-- A state that a ledger can be in. -/
structure Stands (S : List Post) : Prop where
  ok : S.all right = true
  room : S.length ≤ 4096
  held : Maps.size (mapOf S) ≤ 256
theorem Stands.nil : Stands [] := ⟨rfl, by simp, by show 0 ≤ 256; omega⟩
theorem Stands.tidy {S : List Post} (h : S.all right = true) : Maps.Tidy (mapOf S) := by
  unfold mapOf
  rw [addAll_legs]
  exact tidy_fold _ _ Maps.tidy_empty (fits_all h)
theorem Stands.next {S ps : List Post} (h : Stands S) (hc : postCode S.length (mapOf S) ps = 0) : Stands (S ++ ps) := by
  obtain ⟨h1, h2, h3⟩ := postCode_room hc
  exact ⟨by rw [List.all_append, h.ok, h1]; rfl, by rw [List.length_append]; exact h2, by rw [mapOf_append]; exact h3⟩
/-- What a call turns what stands into. -/
noncomputable def nextP (S ps : List Post) : List Post := if postCode S.length (mapOf S) ps = 0 then S ++ ps else S
theorem nextP_is (S ps : List Post) : nextS S (mapOf S) ps = (nextP S ps, mapOf (nextP S ps)) := by
  unfold nextS nextP
  split
  · rw [mapOf_append]
  · rfl
theorem Stands.nextP {S : List Post} (h : Stands S) (ps : List Post) : Stands (nextP S ps) := by
  unfold Proofs.YtmmbhmlhenpgbaaDoor.nextP
  split
  · rename_i hc; exact h.next hc
  · exact h

/-- A balance is its account's sum. -/
theorem bal_mapOf {S : List Post} (h : S.all right = true) {p c : ByteArray} (hp : p.size ≤ maxLen) (hc : c.size ≤ maxLen) : balOf (mapOf S) p c = wrap64 (acctSum p c (legsOf S)) := by
  unfold mapOf
  rw [addAll_legs, (bal_legs hp hc _ _ Maps.isMap_empty (fits_all h) (by rw [bal_empty]; omega)).2, bal_empty, Int.zero_add]
theorem sumOf_append (c : ByteArray) (l m : List Leg) : sumOf c (l ++ m) = sumOf c l + sumOf c m := by
  induction l with
  | nil => simp [sumOf]
  | cons x t ih => simp only [List.cons_append, sumOf, ih]; omega
/-- All accounts of a currency: what they sum up to. -/
def curSum (c : ByteArray) (L : List Leg) : List Acc → Int
  | [] => 0
  | a :: t => (if a.c = c then acctSum a.p a.c L else 0) + curSum c L t
theorem curSum_nil (c : ByteArray) : ∀ ks : List Acc, curSum c [] ks = 0
  | [] => rfl
  | a :: t => by simp only [curSum, curSum_nil c t, acctSum]; split <;> rfl
theorem curSum_out (c : ByteArray) (x : Leg) (L : List Leg) : ∀ ks : List Acc, (∀ a ∈ ks, ¬ (x.party = a.p ∧ x.cur = a.c)) → curSum c (x :: L) ks = curSum c L ks
  | [], _ => rfl
  | a :: t, h => by
    simp only [curSum, curSum_out c x L t (fun b hb => h b (List.mem_cons_of_mem _ hb)), acctSum]
    rw [if_neg (h a (List.mem_cons_self ..)), Int.zero_add]
theorem acc_ext {a b : Acc} (h1 : a.p = b.p) (h2 : a.c = b.c) : a = b := by
  cases a; cases b; simp only at h1 h2; subst h1; subst h2; rfl
theorem curSum_cons (c : ByteArray) (x : Leg) (L : List Leg) : ∀ ks : List Acc, ks.Nodup → (∃ a ∈ ks, a.p = x.party ∧ a.c = x.cur) → curSum c (x :: L) ks = (if x.cur = c then x.amount else 0) + curSum c L ks
  | [], _, h => by obtain ⟨a, ha, _⟩ := h; cases ha
  | a :: t, hn, h => by
    obtain ⟨hn1, hn2⟩ := List.nodup_cons.1 hn
    by_cases he : a.p = x.party ∧ a.c = x.cur
    · have hout : ∀ b ∈ t, ¬ (x.party = b.p ∧ x.cur = b.c) := fun b hb e => hn1 (by
        have : a = b := acc_ext (he.1.trans e.1) (he.2.trans e.2)
        rw [this]; exact hb)
      simp only [curSum, curSum_out c x L t hout, acctSum]
      rw [if_pos (show x.party = a.p ∧ x.cur = a.c from ⟨he.1.symm, he.2.symm⟩), he.2]
      split <;> omega
    · obtain ⟨b, hb, hbe⟩ := h
      have hb' : b ∈ t := by
        rcases List.mem_cons.1 hb with e | hb'
        · rw [e] at hbe; exact absurd hbe he
        · exact hb'
      simp only [curSum, curSum_cons c x L t hn2 ⟨b, hb', hbe⟩, acctSum]
      rw [if_neg (show ¬ (x.party = a.p ∧ x.cur = a.c) from fun e => he ⟨e.1.symm, e.2.symm⟩), Int.zero_add]
      omega
theorem curSum_all (c : ByteArray) (ks : List Acc) (hn : ks.Nodup) : ∀ L : List Leg, (∀ x ∈ L, ∃ a ∈ ks, a.p = x.party ∧ a.c = x.cur) → curSum c L ks = sumOf c L
  | [], _ => curSum_nil c ks
  | x :: t, h => by
    rw [curSum_cons c x t ks hn (h x (List.mem_cons_self ..)), curSum_all c ks hn t (fun y hy => h y (List.mem_cons_of_mem _ hy))]
    rfl
theorem sumCur_is (c : ByteArray) (M : DataW Unit) (L : List Leg) : ∀ (ks : List Acc) (s : Int), (∀ a ∈ ks, balOf M a.p a.c = wrap64 (acctSum a.p a.c L)) →
    (ks.map (legOf M)).foldl (fun s x => if x.cur = c then wrap64 (s + x.amount) else s) (wrap64 s) = wrap64 (s + curSum c L ks)
  | [], s, _ => by simp [curSum]
  | a :: t, s, h => by
    have ha := h a (List.mem_cons_self ..)
    rw [List.map_cons, List.foldl_cons]
    simp only [curSum]
    show List.foldl _ (if (legOf M a).cur = c then _ else _) _ = _
    have e1 : (legOf M a).cur = a.c := rfl
    have e2 : (legOf M a).amount = balOf M a.p a.c := rfl
    rw [e1, e2, ha]
    split
    · have e3 : wrap64 (wrap64 s + wrap64 (acctSum a.p a.c L)) = wrap64 (s + acctSum a.p a.c L) := by unfold wrap64; omega
      rw [e3, sumCur_is c M L t _ (fun b hb => h b (List.mem_cons_of_mem _ hb)), Int.add_assoc]
    · rw [sumCur_is c M L t _ (fun b hb => h b (List.mem_cons_of_mem _ hb)), Int.zero_add]
theorem even_zero (c : ByteArray) (l : List Leg) (h : even l = true) : sumOf c l = 0 := by
  by_cases hm : ∃ x ∈ l, x.cur = c
  · obtain ⟨x, hx, rfl⟩ := hm
    have := List.all_eq_true.1 h x hx
    simpa using this
  · have : ∀ m : List Leg, (∀ x ∈ m, x.cur ≠ c) → sumOf c m = 0 := by
      intro m
      induction m with
      | nil => intro _; rfl
      | cons y t ih =>
        intro hm'
        simp only [sumOf, ih (fun z hz => hm' z (List.mem_cons_of_mem _ hz)), if_neg (hm' y (List.mem_cons_self ..))]
        rfl
    exact this l (fun x hx e => hm ⟨x, hx, e⟩)
theorem sumOf_legs (c : ByteArray) : ∀ S : List Post, S.all right = true → sumOf c (legsOf S) = 0
  | [], _ => rfl
  | x :: t, h => by
    rw [List.all_cons, Bool.and_eq_true] at h
    have e : legsOf (x :: t) = x.legs ++ legsOf t := rfl
    rw [e, sumOf_append, sumOf_legs c t h.2, even_zero c x.legs (right_parts h.1).2.2.2]
    rfl
/-- Of each currency all balances come to nothing. -/
theorem sumCur_zero {S : List Post} (hS : S.all right = true) {ks : List Acc} (hk : HeldIs (mapOf S) ks) (c : ByteArray) : sumCur c (ks.map (legOf (mapOf S))) = 0 := by
  have h0 : (0 : Int) = wrap64 0 := by unfold wrap64; omega
  unfold sumCur
  have := sumCur_is c (mapOf S) (legsOf S) ks 0 (fun a _ => bal_mapOf hS a.hp a.hc)
  rw [← h0] at this
  rw [this, Int.zero_add, curSum_all c ks hk.nodup (legsOf S) (fun x hx => ?_), sumOf_legs c S hS]
  · exact h0.symm
  · have hf := fits_all hS x hx
    have h24 : (24 : Nat) ≤ maxLen := by decide
    refine ⟨⟨x.party, x.cur, Nat.le_trans hf.party h24, Nat.le_trans hf.cur h24⟩, (hk.mem _).2 ?_, rfl, rfl⟩
    unfold mapOf
    rw [addAll_legs, has_fold _ _ _ Maps.isMap_empty (fits_all hS), Bool.or_eq_true]
    exact .inl (List.any_eq_true.2 ⟨x, hx, decide_eq_true ⟨rfl, rfl⟩⟩)

/-- The reference's list of accounts, with a leg more. -/
def addR : List Leg → Leg → List Leg
  | [], x => [x]
  | y :: t, x => if cmp y.party y.cur x.party x.cur < 0 then y :: addR t x else if y.party = x.party ∧ y.cur = x.cur then ⟨x.party, x.cur, wrap64 (x.amount + y.amount)⟩ :: t else x :: y :: t
/-- How two legs' accounts stand to each other. -/
def lc (x y : Leg) : Int := cmp x.party x.cur y.party y.cur
theorem lc_neg (x y : Leg) : lc x y = - lc y x := by
  unfold lc cmp
  have h1 := compareBytes_neg x.party.data.toList y.party.data.toList
  have h2 := compareBytes_neg x.cur.data.toList y.cur.data.toList
  split <;> split <;> omega
theorem lc_zero {x y : Leg} (h : lc x y = 0) : x.party = y.party ∧ x.cur = y.cur := by
  unfold lc cmp at h
  split at h
  · contradiction
  · rename_i h1
    exact ⟨ba_ext (compareBytes_eq (by simpa using h1)), ba_ext (compareBytes_eq h)⟩
theorem lc_same {x y z : Leg} (h1 : x.party = y.party) (h2 : x.cur = y.cur) : lc x z = lc y z ∧ lc z x = lc z y := by
  unfold lc; rw [h1, h2]; exact ⟨rfl, rfl⟩
theorem lc_trans {x y z : Leg} (h1 : lc x y < 0) (h2 : lc y z < 0) : lc x z < 0 := by
  unfold lc at *
  have t1 := compareBytes_trans x.party.data.toList y.party.data.toList z.party.data.toList
  have t2 := compareBytes_trans x.cur.data.toList y.cur.data.toList z.cur.data.toList
  have q1 : Lib.compareBytes x.party.data.toList y.party.data.toList = 0 → Lib.compareBytes x.party.data.toList z.party.data.toList = Lib.compareBytes y.party.data.toList z.party.data.toList := fun e => by rw [compareBytes_eq e]
  have q2 : Lib.compareBytes y.party.data.toList z.party.data.toList = 0 → Lib.compareBytes x.party.data.toList z.party.data.toList = Lib.compareBytes x.party.data.toList y.party.data.toList := fun e => by rw [compareBytes_eq e]
  rw [cmp_if _ _ _ _ _ _ rfl rfl] at *
  generalize Lib.compareBytes x.party.data.toList y.party.data.toList = a1 at *
  generalize Lib.compareBytes y.party.data.toList z.party.data.toList = a2 at *
  generalize Lib.compareBytes x.party.data.toList z.party.data.toList = a3 at *
  generalize Lib.compareBytes x.cur.data.toList y.cur.data.toList = b1 at *
  generalize Lib.compareBytes y.cur.data.toList z.cur.data.toList = b2 at *
  generalize Lib.compareBytes x.cur.data.toList z.cur.data.toList = b3 at *
  split at h1 <;> split at h2 <;> split <;> omega
theorem lc_self (x : Leg) : lc x x = 0 := by have := lc_neg x x; omega
def sameAcct (z x : Leg) : Prop := z.party = x.party ∧ z.cur = x.cur
theorem lc_not {x y : Leg} (h : lc x y < 0) : ¬ sameAcct x y := fun e => by
  have := (lc_same (z := y) e.1 e.2).1
  rw [lc_self] at this; omega
/-- What stands at a leg's account behind it. -/
theorem addR_spec (x : Leg) : ∀ L : List Leg, L.Pairwise (fun a b => lc a b < 0) →
    (addR L x).Pairwise (fun a b => lc a b < 0) ∧ (∀ z, z ∈ addR L x → (z ∈ L ∧ ¬ sameAcct z x) ∨ (∃ y ∈ L, sameAcct y x ∧ z = ⟨x.party, x.cur, wrap64 (x.amount + y.amount)⟩) ∨ ((∀ y ∈ L, ¬ sameAcct y x) ∧ z = x)) ∧
    (∀ y ∈ L, ∃ z ∈ addR L x, sameAcct z y) ∧ (∃ z ∈ addR L x, sameAcct z x)
  | [], _ => ⟨by simp [addR], fun z hz => by simp [addR] at hz; exact .inr (.inr ⟨by simp, hz⟩), by simp, ⟨x, by simp [addR], rfl, rfl⟩⟩
  | y :: t, h => by
    obtain ⟨h1, h2⟩ := List.pairwise_cons.1 h
    unfold addR
    by_cases c1 : cmp y.party y.cur x.party x.cur < 0
    · rw [if_pos c1]
      have hyx : ¬ sameAcct y x := lc_not c1
      obtain ⟨i1, i2, i3, i4⟩ := addR_spec x t h2
      refine ⟨List.pairwise_cons.2 ⟨fun z hz => ?_, i1⟩, fun z hz => ?_, fun u hu => ?_, ?_⟩
      · rcases i2 z hz with ⟨a, _⟩ | ⟨u, _, _, rfl⟩ | ⟨_, rfl⟩
        · exact h1 z a
        · exact c1
        · exact c1
      · rcases List.mem_cons.1 hz with rfl | hz
        · exact .inl ⟨List.mem_cons_self .., hyx⟩
        · rcases i2 z hz with ⟨a, b⟩ | ⟨u, hu, b, e⟩ | ⟨a, e⟩
          · exact .inl ⟨List.mem_cons_of_mem _ a, b⟩
          · exact .inr (.inl ⟨u, List.mem_cons_of_mem _ hu, b, e⟩)
          · refine .inr (.inr ⟨fun u hu => ?_, e⟩)
            rcases List.mem_cons.1 hu with rfl | hu
            · exact hyx
            · exact a u hu
      · rcases List.mem_cons.1 hu with rfl | hu
        · exact ⟨_, List.mem_cons_self .., rfl, rfl⟩
        · obtain ⟨z, hz, e⟩ := i3 u hu
          exact ⟨z, List.mem_cons_of_mem _ hz, e⟩
      · obtain ⟨z, hz, e⟩ := i4
        exact ⟨z, List.mem_cons_of_mem _ hz, e⟩
    · rw [if_neg c1]
      by_cases c2 : y.party = x.party ∧ y.cur = x.cur
      · rw [if_pos c2]
        have hlc : ∀ z, lc y z = lc ⟨x.party, x.cur, wrap64 (x.amount + y.amount)⟩ z := fun z => (lc_same (x := y) (y := ⟨x.party, x.cur, wrap64 (x.amount + y.amount)⟩) c2.1 c2.2).1
        refine ⟨List.pairwise_cons.2 ⟨fun z hz => by rw [← hlc]; exact h1 z hz, h2⟩, fun z hz => ?_, fun u hu => ?_, ⟨_, List.mem_cons_self .., rfl, rfl⟩⟩
        · rcases List.mem_cons.1 hz with rfl | hz
          · exact .inr (.inl ⟨y, List.mem_cons_self .., c2, rfl⟩)
          · refine .inl ⟨List.mem_cons_of_mem _ hz, fun e => ?_⟩
            exact lc_not (h1 z hz) ⟨c2.1.trans e.1.symm, c2.2.trans e.2.symm⟩
        · rcases List.mem_cons.1 hu with rfl | hu
          · exact ⟨_, List.mem_cons_self .., c2.1.symm, c2.2.symm⟩
          · exact ⟨u, List.mem_cons_of_mem _ hu, rfl, rfl⟩
      · rw [if_neg c2]
        have hxy : lc x y < 0 := by
          have e1 : ¬ lc y x < 0 := c1
          have e2 : lc y x ≠ 0 := fun e => c2 (lc_zero e)
          have := lc_neg x y
          omega
        have hno : ∀ u ∈ y :: t, ¬ sameAcct u x := by
          intro u hu
          rcases List.mem_cons.1 hu with rfl | hu
          · exact c2
          · exact fun e => lc_not (lc_trans hxy (h1 u hu)) ⟨e.1.symm, e.2.symm⟩
        refine ⟨List.pairwise_cons.2 ⟨fun z hz => ?_, h⟩, fun z hz => ?_, fun u hu => ⟨u, List.mem_cons_of_mem _ hu, rfl, rfl⟩, ⟨x, List.mem_cons_self .., rfl, rfl⟩⟩
        · rcases List.mem_cons.1 hz with rfl | hz
          · exact hxy
          · exact lc_trans hxy (h1 z hz)
        · rcases List.mem_cons.1 hz with rfl | hz
          · exact .inr (.inr ⟨hno, rfl⟩)
          · exact .inl ⟨hz, hno z hz⟩
/-- How long it gets. -/
theorem addR_len (x : Leg) : ∀ L : List Leg, L.Pairwise (fun a b => lc a b < 0) → ((∃ y ∈ L, sameAcct y x) → (addR L x).length = L.length) ∧ ((∀ y ∈ L, ¬ sameAcct y x) → (addR L x).length = L.length + 1)
  | [], _ => ⟨fun ⟨y, hy, _⟩ => (by cases hy), fun _ => rfl⟩
  | y :: t, h => by
    obtain ⟨h1, h2⟩ := List.pairwise_cons.1 h
    obtain ⟨i1, i2⟩ := addR_len x t h2
    unfold addR
    by_cases c1 : cmp y.party y.cur x.party x.cur < 0
    · rw [if_pos c1]
      refine ⟨fun ⟨u, hu, e⟩ => ?_, fun hn => ?_⟩
      · rcases List.mem_cons.1 hu with rfl | hu
        · exact absurd e (lc_not c1)
        · rw [List.length_cons, i1 ⟨u, hu, e⟩, List.length_cons]
      · rw [List.length_cons, i2 (fun u hu => hn u (List.mem_cons_of_mem _ hu)), List.length_cons]
    · rw [if_neg c1]
      by_cases c2 : y.party = x.party ∧ y.cur = x.cur
      · rw [if_pos c2]
        exact ⟨fun _ => rfl, fun hn => absurd c2 (hn y (List.mem_cons_self ..))⟩
      · rw [if_neg c2]
        refine ⟨fun ⟨u, hu, e⟩ => ?_, fun _ => rfl⟩
        have hxy : lc x y < 0 := by
          have e1 : ¬ lc y x < 0 := c1
          have e2 : lc y x ≠ 0 := fun e => c2 (lc_zero e)
          have := lc_neg x y
          omega
        rcases List.mem_cons.1 hu with rfl | hu
        · exact absurd e c2
        · exact absurd (show sameAcct x u from ⟨e.1.symm, e.2.symm⟩) (lc_not (lc_trans hxy (h1 u hu)))
/-- A list of accounts that says what the map does. -/
structure HeldL (D : DataW Unit) (L : List Leg) : Prop where
  wide : ∀ x ∈ L, x.party.size ≤ maxLen ∧ x.cur.size ≤ maxLen
  bal : ∀ x ∈ L, x.amount = balOf D x.party x.cur
  mem : ∀ a : Acc, (∃ x ∈ L, x.party = a.p ∧ x.cur = a.c) ↔ has D a.k = true
  rises : L.Pairwise fun x y => lc x y < 0
  size : L.length = Maps.size D
theorem HeldL.nil : HeldL (.map []) [] := ⟨fun x hx => (by cases hx), fun x hx => (by cases hx), fun a => ⟨fun ⟨x, hx, _⟩ => (by cases hx), fun h => (by simp [has] at h)⟩, List.Pairwise.nil, rfl⟩
theorem HeldL.add {D : DataW Unit} {L : List Leg} {x : Leg} (h : HeldL D L) (hD : Maps.Tidy D) (hx : Fits x) (hbal0 : ∀ p c : ByteArray, (hp : p.size ≤ maxLen) → (hc : c.size ≤ maxLen) → has D (Acc.k ⟨p, c, hp, hc⟩) = false → balOf D p c = 0) : HeldL (addLeg D x) (addR L x) := by
  have h24 : (24 : Nat) ≤ maxLen := by decide
  have x1 := Nat.le_trans hx.party h24
  have x2 := Nat.le_trans hx.cur h24
  obtain ⟨s1, s2, s3, s4⟩ := addR_spec x L h.rises
  obtain ⟨l1, l2⟩ := addR_len x L h.rises
  have hmx := h.mem ⟨x.party, x.cur, x1, x2⟩
  have hw : ∀ z ∈ addR L x, z.party.size ≤ maxLen ∧ z.cur.size ≤ maxLen := by
    intro z hz
    rcases s2 z hz with ⟨a, _⟩ | ⟨y, _, _, rfl⟩ | ⟨_, rfl⟩
    · exact h.wide z a
    · exact ⟨x1, x2⟩
    · exact ⟨x1, x2⟩
  refine ⟨hw, fun z hz => ?_, fun a => ?_, s1, ?_⟩
  · have hz' := hw z hz
    rw [balOf_add hD.isMap x1 x2 hz'.1 hz'.2]
    rcases s2 z hz with ⟨a, b⟩ | ⟨y, hy, b, rfl⟩ | ⟨a, rfl⟩
    · rw [if_neg (fun e => b ⟨e.1.symm, e.2.symm⟩)]
      exact h.bal z a
    · rw [if_pos ⟨rfl, rfl⟩]
      have := h.bal y hy
      rw [b.1, b.2] at this
      show wrap64 (x.amount + y.amount) = _
      rw [this, Int.add_comm]
    · rw [if_pos ⟨rfl, rfl⟩]
      have hn : has D (Acc.k ⟨z.party, z.cur, x1, x2⟩) = false := by
        cases hh : has D (Acc.k ⟨z.party, z.cur, x1, x2⟩)
        · rfl
        · obtain ⟨y, hy, e⟩ := hmx.2 hh
          exact absurd e (a y hy)
      rw [hbal0 _ _ x1 x2 hn, Int.zero_add, wrap64_id hx.lo hx.hi]
  · rw [has_addLeg hD.isMap hx, Bool.or_eq_true, decide_eq_true_eq]
    constructor
    · rintro ⟨z, hz, e1, e2⟩
      rcases s2 z hz with ⟨b, _⟩ | ⟨y, hy, b, rfl⟩ | ⟨b, rfl⟩
      · exact .inr ((h.mem a).1 ⟨z, b, e1, e2⟩)
      · exact .inl ⟨e1.symm, e2.symm⟩
      · exact .inl ⟨e1.symm, e2.symm⟩
    · rintro (⟨e1, e2⟩ | hh)
      · obtain ⟨z, hz, f1, f2⟩ := s4
        exact ⟨z, hz, f1.trans e1.symm, f2.trans e2.symm⟩
      · obtain ⟨y, hy, e1, e2⟩ := (h.mem a).2 hh
        obtain ⟨z, hz, f1, f2⟩ := s3 y hy
        exact ⟨z, hz, f1.trans e1, f2.trans e2⟩
  · have e : accK x.party x.cur = Acc.k ⟨x.party, x.cur, x1, x2⟩ := rfl
    rw [size_addLeg hD, e]
    cases hh : has D (Acc.k ⟨x.party, x.cur, x1, x2⟩)
    · rw [l2 (fun y hy e => ?_), h.size]
      · rfl
      · have := hmx.1 ⟨y, hy, e⟩
        rw [hh] at this; cases this
    · rw [l1 (hmx.2 hh), h.size]
      rfl
/-- The reference's list of what stands. -/
def heldR (S : List Post) : List Leg := (legsOf S).foldl addR []
theorem bal_none {D : DataW Unit} (h : ∀ a : Acc, has D a.k = false → balOf D a.p a.c = 0) (p c : ByteArray) (hp : p.size ≤ maxLen) (hc : c.size ≤ maxLen) (hh : has D (Acc.k ⟨p, c, hp, hc⟩) = false) : balOf D p c = 0 := h ⟨p, c, hp, hc⟩ hh
theorem heldL_fold : ∀ (L : List Leg) (D : DataW Unit) (H : List Leg), HeldL D H → Maps.Tidy D → (∀ a : Acc, has D a.k = false → balOf D a.p a.c = 0) → (∀ x ∈ L, Fits x) → HeldL (L.foldl addLeg D) (L.foldl addR H)
  | [], D, H, h, _, _, _ => h
  | x :: t, D, H, h, hD, hb, hL => by
    have h24 : (24 : Nat) ≤ maxLen := by decide
    have hx := hL x (List.mem_cons_self ..)
    have x1 := Nat.le_trans hx.party h24
    have x2 := Nat.le_trans hx.cur h24
    refine heldL_fold t _ _ (h.add hD hx (fun p c hp hc hh => bal_none hb p c hp hc hh)) (tidy_add hD x x1 x2) (fun a ha => ?_) (fun y hy => hL y (List.mem_cons_of_mem _ hy))
    rw [has_addLeg hD.isMap hx, Bool.or_eq_false_iff, decide_eq_false_iff_not] at ha
    rw [balOf_add hD.isMap x1 x2 a.hp a.hc, if_neg (fun e => ha.1 ⟨e.1.symm, e.2.symm⟩)]
    exact hb a ha.2
theorem heldL_of {S : List Post} (h : S.all right = true) : HeldL (mapOf S) (heldR S) := by
  unfold mapOf heldR
  rw [addAll_legs]
  exact heldL_fold _ _ _ HeldL.nil Maps.tidy_empty (fun a _ => bal_empty _ _) (fits_all h)
theorem heldR_append (S T : List Post) : heldR (S ++ T) = (legsOf T).foldl addR (heldR S) := by
  unfold heldR legsOf
  rw [List.flatMap_append, List.foldl_append]
/-- The reference's list is the ledger's. -/
theorem heldR_is {S : List Post} (h : S.all right = true) {ks : List Acc} (hk : HeldIs (mapOf S) ks) : heldR S = ks.map (legOf (mapOf S)) := by
  have hl := heldL_of h
  refine strict_unique (R := fun x y : Leg => lc x y < 0) (fun x => by rw [lc_self]; omega) (fun _ _ _ => lc_trans) _ _ hl.rises ?_ (fun x => ?_)
  · rw [List.pairwise_map]
    exact hk.rises
  · constructor
    · intro hx
      obtain ⟨w1, w2⟩ := hl.wide x hx
      have hm := (hl.mem ⟨x.party, x.cur, w1, w2⟩).1 ⟨x, hx, rfl, rfl⟩
      refine List.mem_map.2 ⟨⟨x.party, x.cur, w1, w2⟩, (hk.mem _).2 hm, ?_⟩
      have hb := hl.bal x hx
      unfold legOf
      show Leg.mk x.party x.cur _ = x
      rw [← hb]
    · intro hx
      obtain ⟨a, ha, rfl⟩ := List.mem_map.1 hx
      obtain ⟨y, hy, e1, e2⟩ := (hl.mem a).2 ((hk.mem a).1 ha)
      have hb := hl.bal y hy
      rw [e1, e2] at hb
      have : y = legOf (mapOf S) a := by
        obtain ⟨p, c, n⟩ := y
        simp only at e1 e2 hb
        subst e1; subst e2; subst hb
        rfl
      rw [← this]; exact hy
/-- A call's number, by the reference. -/
theorem postCode_R {S ps : List Post} (hS : S.all right = true) (hr : ps.all right = true) : postCode S.length (mapOf S) ps = if 4096 < S.length + ps.length ∨ 256 < (heldR (S ++ ps)).length then 201 else 0 := by
  unfold postCode
  rw [if_neg (by rw [hr]; simp), (heldL_of (S := S ++ ps) (by rw [List.all_append, hS, hr]; rfl)).size, mapOf_append]
/-- An account's balance in the reference's list. -/
def balR (p c : ByteArray) : List Leg → Int
  | [] => 0
  | x :: t => if x.party = p ∧ x.cur = c then x.amount else balR p c t
theorem balR_is {D : DataW Unit} {L : List Leg} (h : HeldL D L) (h0 : ∀ a : Acc, has D a.k = false → balOf D a.p a.c = 0) {p c : ByteArray} (hp : p.size ≤ maxLen) (hc : c.size ≤ maxLen) : balR p c L = balOf D p c := by
  have key : ∀ M : List Leg, (∀ x ∈ M, x.amount = balOf D x.party x.cur) → ((∃ x ∈ M, x.party = p ∧ x.cur = c) → balR p c M = balOf D p c) ∧ ((∀ x ∈ M, ¬ (x.party = p ∧ x.cur = c)) → balR p c M = 0) := by
    intro M
    induction M with
    | nil => exact fun _ => ⟨fun ⟨x, hx, _⟩ => (by cases hx), fun _ => rfl⟩
    | cons y t ih =>
      intro hM
      obtain ⟨i1, i2⟩ := ih (fun x hx => hM x (List.mem_cons_of_mem _ hx))
      have hy := hM y (List.mem_cons_self ..)
      unfold balR
      by_cases e : y.party = p ∧ y.cur = c
      · rw [if_pos e]
        rw [e.1, e.2] at hy
        exact ⟨fun _ => hy, fun hn => absurd e (hn y (List.mem_cons_self ..))⟩
      · rw [if_neg e]
        refine ⟨fun ⟨x, hx, e2⟩ => ?_, fun hn => i2 (fun x hx => hn x (List.mem_cons_of_mem _ hx))⟩
        rcases List.mem_cons.1 hx with rfl | hx
        · exact absurd e2 e
        · exact i1 ⟨x, hx, e2⟩
  obtain ⟨k1, k2⟩ := key L h.bal
  cases hh : has D (Acc.k ⟨p, c, hp, hc⟩)
  · rw [h0 ⟨p, c, hp, hc⟩ hh, k2]
    intro x hx e
    have := (h.mem ⟨p, c, hp, hc⟩).1 ⟨x, hx, e⟩
    rw [hh] at this; cases this
  · exact k1 ((h.mem ⟨p, c, hp, hc⟩).2 hh)
theorem bal0_fold : ∀ (L : List Leg) (D : DataW Unit), Maps.IsMap D → (∀ a : Acc, has D a.k = false → balOf D a.p a.c = 0) → (∀ x ∈ L, Fits x) → ∀ a : Acc, has (L.foldl addLeg D) a.k = false → balOf (L.foldl addLeg D) a.p a.c = 0
  | [], D, _, h, _ => h
  | x :: t, D, hD, h, hL => by
    have h24 : (24 : Nat) ≤ maxLen := by decide
    have hx := hL x (List.mem_cons_self ..)
    have x1 := Nat.le_trans hx.party h24
    have x2 := Nat.le_trans hx.cur h24
    refine bal0_fold t _ (isMap_add hD x) (fun a ha => ?_) (fun y hy => hL y (List.mem_cons_of_mem _ hy))
    rw [has_addLeg hD hx, Bool.or_eq_false_iff, decide_eq_false_iff_not] at ha
    rw [balOf_add hD x1 x2 a.hp a.hc, if_neg (fun e => ha.1 ⟨e.1.symm, e.2.symm⟩)]
    exact h a ha.2
theorem balR_mapOf {S : List Post} (h : S.all right = true) {p c : ByteArray} (hp : p.size ≤ maxLen) (hc : c.size ≤ maxLen) : balR p c (heldR S) = balOf (mapOf S) p c := by
  refine balR_is (heldL_of h) (fun a ha => ?_) hp hc
  unfold mapOf at *
  rw [addAll_legs] at *
  exact bal0_fold _ _ Maps.isMap_empty (fun a _ => bal_empty _ _) (fits_all h) a ha

/-- Calls of one posting each, as long as they are taken. -/
noncomputable def stepP (S : List Post) : List Post → List Post × Int
  | [] => (S, 0)
  | x :: t => if postCode S.length (mapOf S) [x] = 0 then stepP (S ++ [x]) t else (S, postCode S.length (mapOf S) [x])
/-- Calls together are those one by one. -/
theorem together : ∀ (ps S : List Post), Stands S → S.length + ps.length ≤ 4096 → (postCode S.length (mapOf S) ps = 0 → stepP S ps = (S ++ ps, 0)) ∧ (postCode S.length (mapOf S) ps ≠ 0 → (stepP S ps).2 ≠ 0)
  | [], S, hS, _ => ⟨fun _ => by simp [stepP], fun h => absurd (by
      unfold postCode
      rw [if_neg (by simp), if_neg]
      have h1 := hS.room
      have h2 := hS.held
      simp only [List.length_nil, addAll, List.foldl_nil]
      omega) h⟩
  | x :: t, S, hS, hl => by
    rw [List.length_cons] at hl
    have hx0 : postCode S.length (mapOf S) [x] = 0 ↔ (right x = true ∧ Maps.size (mapOf (S ++ [x])) ≤ 256) := by
      unfold postCode
      rw [mapOf_append]
      constructor
      · intro h
        split at h
        · cases h
        · rename_i h1
          split at h
          · cases h
          · rename_i h2
            rw [not_or] at h2
            exact ⟨by simpa using h1, by omega⟩
      · rintro ⟨h1, h2⟩
        rw [if_neg (by simp [h1]), if_neg]
        rw [not_or]
        exact ⟨by simp; omega, by omega⟩
    have hpc : postCode S.length (mapOf S) (x :: t) = 0 ↔ (right x = true ∧ t.all right = true ∧ Maps.size (addAll (mapOf (S ++ [x])) t) ≤ 256) := by
      unfold postCode
      have e : addAll (mapOf S) (x :: t) = addAll (mapOf (S ++ [x])) t := by
        rw [mapOf_append, ← addAll_append]; rfl
      rw [e]
      constructor
      · intro h
        split at h
        · cases h
        · rename_i h1
          split at h
          · cases h
          · rename_i h2
            rw [not_or] at h2
            simp only [List.all_cons, Bool.and_eq_false_imp, Bool.not_eq_false] at h1
            have h1' : (right x && t.all right) = true := by
              cases hrx : right x <;> cases hta : t.all right <;> simp_all
            rw [Bool.and_eq_true] at h1'
            exact ⟨h1'.1, h1'.2, by omega⟩
      · rintro ⟨h1, h2, h3⟩
        rw [if_neg (by rw [List.all_cons, h1, h2]; simp), if_neg]
        rw [not_or]
        exact ⟨by simp; omega, by omega⟩
    by_cases hx : postCode S.length (mapOf S) [x] = 0
    · have hS2 := hS.next hx
      have hx' := hx0.1 hx
      obtain ⟨i1, i2⟩ := together t (S ++ [x]) hS2 (by simp; omega)
      have ht : postCode (S ++ [x]).length (mapOf (S ++ [x])) t = 0 ↔ (t.all right = true ∧ Maps.size (addAll (mapOf (S ++ [x])) t) ≤ 256) := by
        unfold postCode
        constructor
        · intro h
          split at h
          · cases h
          · rename_i h1
            split at h
            · cases h
            · rename_i h2
              rw [not_or] at h2
              exact ⟨by simpa using h1, by omega⟩
        · rintro ⟨h1, h2⟩
          rw [if_neg (by rw [h1]; simp), if_neg]
          rw [not_or]
          exact ⟨by simp; omega, by omega⟩
      unfold stepP
      rw [if_pos hx]
      refine ⟨fun h => ?_, fun h => i2 (fun h2 => h (hpc.2 ⟨hx'.1, ht.1 h2⟩))⟩
      rw [i1 (ht.2 (hpc.1 h).2), List.append_assoc]; rfl
    · unfold stepP
      rw [if_neg hx]
      refine ⟨fun h => absurd (hx0.2 ⟨(hpc.1 h).1, ?_⟩) hx, fun _ => hx⟩
      have h1 := hpc.1 h
      refine Nat.le_trans ?_ h1.2.2
      rw [addAll_legs]
      exact size_mono _ _ (Stands.tidy (by rw [List.all_append, hS.ok]; simp [h1.1])) (fits_all h1.2.1)
end Go.Proofs.YtmmbhmlhenpgbaaDoor
