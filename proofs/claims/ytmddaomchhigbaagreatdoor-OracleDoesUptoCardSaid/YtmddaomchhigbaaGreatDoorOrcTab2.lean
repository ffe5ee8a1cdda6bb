/- Proved: what becomes of a table when what is known of a feed turns, or a feed is added (no walk); New, Seq as contracts. -/
import Derived.Test.YtmddaomchhigbaaGreatDoorOrcTab
namespace Go.Proofs.YtmddaomchhigbaaGreatDoor
open Go.RowKit Go.Maps
open Led Orc
set_option linter.unusedVariables false
set_option linter.unusedSimpArgs false
set_option maxRecDepth 100000
/-- Of what was there a call has turned some blocks alone. -/
structure OnlyF (F : Nat → Prop) (w w' : World) : Prop where
  os : w'.os = w.os
  tape : w'.tape = w.tape
  output : w'.output = w.output
  size : w.heap.size ≤ w'.heap.size
  block : ∀ k, k < w.heap.size → ¬ F k → w'.heap[k]? = w.heap[k]?
theorem OnlyF.of_below {F : Nat → Prop} {w w' : World} (B : Below w.heap.size w w') : OnlyF F w w' := ⟨B.os, B.tape, B.output, B.size, fun k hk _ => B.block k hk⟩
theorem OnlyF.to_below {F : Nat → Prop} {base : Nat} {w w' : World} (h : OnlyF F w w') (hF : ∀ k, F k → base ≤ k) (hb : base ≤ w.heap.size) : Below base w w' :=
  ⟨h.os, h.tape, h.output, h.size, fun k hk => h.block k (by omega) (fun e => by have := hF k e; omega)⟩
theorem OnlyF.trans {F : Nat → Prop} {w w1 w2 : World} (h : OnlyF F w w1) (k : OnlyF F w1 w2) : OnlyF F w w2 :=
  ⟨k.os.trans h.os, k.tape.trans h.tape, k.output.trans h.output, Nat.le_trans h.size k.size, fun i hi hn => (k.block i (Nat.lt_of_lt_of_le hi h.size) hn).trans (h.block i hi hn)⟩
namespace Orc
def upd (s : ByteArray) (q' : Kb) (x : Kb) : Kb := if x.kn.name = s then q' else x
theorem upd_name {s : ByteArray} {q' : Kb} (h : q'.kn.name = s) (x : Kb) : (upd s q' x).kn.name = x.kn.name := by
  unfold upd; split
  · rename_i e; rw [h, e]
  · rfl
theorem find_upd {s : ByteArray} {q' : Kb} (h : q'.kn.name = s) (Q : List Kb) (u : ByteArray) : find (Q.map (upd s q')) u = (find Q u).map (upd s q') := by
  unfold find
  rw [List.find?_map]
  congr 1
  congr 1
  funext x
  simp only [Function.comp_apply, upd_name h]
end Orc
theorem same_name {Q : List Orc.Kb} (h : Q.Pairwise fun a b => a.kn.name ≠ b.kn.name) {x q : Orc.Kb} (hx : x ∈ Q) (hq : q ∈ Q) (e : x.kn.name = q.kn.name) : x = q := by
  induction Q with
  | nil => cases hx
  | cons a t ih =>
    obtain ⟨h1, h2⟩ := List.pairwise_cons.1 h
    rcases List.mem_cons.1 hx with rfl | hx'
    · rcases List.mem_cons.1 hq with rfl | hq'
      · rfl
      · exact absurd e (h1 q hq')
    · rcases List.mem_cons.1 hq with rfl | hq'
      · exact absurd e.symm (h1 x hx')
      · exact ih h2 hx' hq'
theorem pair_of {R : Orc.Kb → Orc.Kb → Prop} (hs : ∀ a b, R a b → R b a) {Q : List Orc.Kb} (hn : Q.Pairwise fun a b => a.kn.name ≠ b.kn.name) (h : Q.Pairwise R) {x q : Orc.Kb} (hx : x ∈ Q) (hq : q ∈ Q) (e : x.kn.name ≠ q.kn.name) : R x q := by
  induction Q with
  | nil => cases hx
  | cons a t ih =>
    obtain ⟨h1, h2⟩ := List.pairwise_cons.1 h
    obtain ⟨n1, n2⟩ := List.pairwise_cons.1 hn
    rcases List.mem_cons.1 hx with rfl | hx'
    · rcases List.mem_cons.1 hq with rfl | hq'
      · exact absurd rfl e
      · exact h1 q hq'
    · rcases List.mem_cons.1 hq with rfl | hq'
      · exact hs _ _ (h1 x hx')
      · exact ih n2 h2 hx' hq'
theorem TabAt.update {base tb mb : Nat} {Q : List Orc.Kb} {W W' : World} (h : TabAt base tb mb Q W) {q q' : Orc.Kb} (hq : q ∈ Q) (hn : q'.kn.name = q.kn.name) (hkb : q'.kb = q.kb) (hK : KnownAt base W' q') (hfit : KnFits q'.kn)
    (hsv : ∀ g, q'.sv.ownBlock = some g → q.sv.ownBlock = some g ∨ W.heap.size ≤ g) (ho : ∀ k, k < W.heap.size → k ≠ q.kb → q.sv.ownBlock ≠ some k → W'.heap[k]? = W.heap[k]?) :
    TabAt base tb mb (Q.map (Orc.upd q.kn.name q')) W' ∧ ∀ k, Foot tb mb (Q.map (Orc.upd q.kn.name q')) k → Foot tb mb Q k ∨ W.heap.size ≤ k := by
  have hqk := h.kn q hq
  have hne : ∀ {k : Nat} {o : Obj}, W.heap[k]? = some o → (∀ (cur : Array Value) (fr : Nat × Nat), o ≠ Obj.cells cur 82 fr) → (∀ (cur : Array Value) (fr : Nat × Nat), o ≠ Obj.cells cur 54 fr) → W'.heap[k]? = W.heap[k]? := by
    intro k o hk h1 h2
    refine ho k (lt_of_block hk) ?_ (hqk.row.ne hk h2)
    rintro rfl
    rw [hqk.blk] at hk
    cases hk
    exact h1 _ _ rfl
  have hin : ∀ x ∈ Q.map (Orc.upd q.kn.name q'), x = q' ∨ (x ∈ Q ∧ x.kn.name ≠ q.kn.name) := by
    intro x hx
    obtain ⟨y, hy, rfl⟩ := List.mem_map.1 hx
    unfold Orc.upd
    by_cases e : y.kn.name = q.kn.name
    · rw [if_pos e]; exact .inl rfl
    · rw [if_neg e]; exact .inr ⟨hy, e⟩
  have hrows : ∀ x ∈ Q, x.kn.name ≠ q.kn.name → ∀ g, x.sv.ownBlock = some g → q.sv.ownBlock ≠ some g := fun x hx e => pair_of (R := fun a b => ∀ g, a.sv.ownBlock = some g → b.sv.ownBlock ≠ some g) (fun a b r g h1 h2 => r g h2 h1) h.names h.rows hx hq e
  have hblocks : ∀ x ∈ Q, x.kn.name ≠ q.kn.name → x.kb ≠ q.kb := fun x hx e => pair_of (R := fun a b => a.kb ≠ b.kb) (fun a b r e => r e.symm) h.names h.blocks hx hq e
  refine ⟨⟨(hne h.hb (fun _ _ e => by cases e) (fun _ _ e => by cases e)).trans h.hb, ?_, ?_, ?_, ?_, ?_, ?_, h.lo, by rw [List.length_map]; exact h.room⟩, ?_⟩
  · obtain ⟨D, ⟨es, clock, hm, hr⟩, hsz, hD⟩ := h.map
    refine ⟨D, ⟨es, clock, (hne hm (fun _ _ e => by cases e) (fun _ _ e => by cases e)).trans hm, by rw [List.length_map]; exact hr⟩, by rw [List.length_map]; exact hsz, fun s hs => ?_⟩
    rw [Orc.find_upd hn]
    obtain ⟨d1, d2⟩ := hD s hs
    refine ⟨by rw [d1]; cases Orc.find Q s <;> rfl, ?_⟩
    rw [d2]
    cases hf : Orc.find Q s with
    | none => rfl
    | some x =>
      simp only [Option.map_some, Orc.datOf]
      by_cases e : x.kn.name = q.kn.name
      · have : x = q := same_name h.names (Orc.find_mem hf).1 hq e
        unfold Orc.upd; rw [if_pos e, hkb, this]
      · unfold Orc.upd; rw [if_neg e]
  · intro x hx
    rcases hin x hx with rfl | ⟨hxq, e⟩
    · exact hK
    · have hk := h.kn x hxq
      refine ⟨(ho _ (lt_of_block hk.blk) (hblocks x hxq e) (hqk.row.ne hk.blk (fun _ _ e => by cases e))).trans hk.blk, hk.row.same fun g hg => ?_, hk.lo⟩
      refine ho g (World.ownsRow.lt hk.row g hg).2 ?_ (hrows x hxq e g hg)
      rintro rfl
      exact hk.row.ne hqk.blk (fun _ _ e => by cases e) hg
  · rw [List.pairwise_map]
    exact h.names.imp fun {a b} e => by rw [Orc.upd_name hn, Orc.upd_name hn]; exact e
  · rw [List.pairwise_map]
    refine (h.names.and h.blocks).imp_of_mem fun {a b} ha hb' ⟨e, e2⟩ => ?_
    unfold Orc.upd
    split
    · rename_i ea
      rw [if_neg (fun eb => e (ea.trans eb.symm)), hkb]
      rw [same_name h.names ha hq ea] at e2; exact e2
    · split
      · rename_i eb
        rw [hkb]; rw [same_name h.names hb' hq eb] at e2; exact e2
      · exact e2
  · rw [List.pairwise_map]
    have hnew : ∀ x ∈ Q, x.kn.name ≠ q.kn.name → ∀ g, x.sv.ownBlock = some g → q'.sv.ownBlock ≠ some g := by
      intro x hx e g h1 h2
      rcases hsv g h2 with h3 | h3
      · exact hrows x hx e g h1 h3
      · have := (World.ownsRow.lt (h.kn x hx).row g h1).2
        omega
    refine (h.names.and h.rows).imp_of_mem fun {a b} ha hb' ⟨e, e2⟩ => ?_
    unfold Orc.upd
    split
    · rename_i ea
      have hbn : b.kn.name ≠ q.kn.name := fun eb => e (ea.trans eb.symm)
      rw [if_neg hbn]
      exact fun g h1 h2 => hnew b hb' hbn g h2 h1
    · rename_i ea
      split
      · exact hnew a ha ea
      · exact e2
  · intro x hx
    rcases hin x hx with rfl | ⟨hxq, e⟩
    · exact hfit
    · exact h.fits x hxq
  · rintro k (rfl | rfl | ⟨x, hx, hk⟩)
    · exact .inl (.inl rfl)
    · exact .inl (.inr (.inl rfl))
    · rcases hin x hx with rfl | ⟨hxq, e⟩
      · rcases hk with rfl | hk
        · exact .inl (.inr (.inr ⟨q, hq, .inl hkb⟩))
        · rcases hsv k hk with h3 | h3
          · exact .inl (.inr (.inr ⟨q, hq, .inr h3⟩))
          · exact .inr h3
      · exact .inl (.inr (.inr ⟨x, hxq, hk⟩))
theorem find_append (Q : List Orc.Kb) (q : Orc.Kb) (s : ByteArray) : Orc.find (Q ++ [q]) s = (Orc.find Q s).or (if q.kn.name = s then some q else none) := by
  unfold Orc.find
  rw [List.find?_append]
  congr 1
  by_cases e : q.kn.name = s <;> simp [e]
theorem TabAt.add {base tb mb : Nat} {Q : List Orc.Kb} {W W' : World} (h : TabAt base tb mb Q W) {q : Orc.Kb} (hf : Orc.find Q q.kn.name = none) (hl : Q.length < 64) (hns : q.kn.name.size ≤ maxLen) (hK : KnownAt base W' q) (hfit : KnFits q.kn) (hkb : W.heap.size ≤ q.kb) (hsv : q.sv.ownBlock = none)
    (hm : ∃ D D' : DataW Unit, W.ownsMap Tryz.prog 9 ptrElem mb Q.length D ∧ Maps.size D = Q.length ∧ (∀ s : ByteArray, s.size ≤ maxLen → has D (nameK s) = (Orc.find Q s).isSome ∧ D.atKey (nameK s) .nil = datOf (Orc.find Q s)) ∧ D' = D.put (nameK q.kn.name) (.lit (.int .i64 (q.kb : Int))) ∧ W'.ownsMap Tryz.prog 9 ptrElem mb (Q.length + 1) D')
    (ho : ∀ k, k < W.heap.size → k ≠ mb → W'.heap[k]? = W.heap[k]?) : TabAt base tb mb (Q ++ [q]) W' ∧ ∀ k, Foot tb mb (Q ++ [q]) k → Foot tb mb Q k ∨ W.heap.size ≤ k := by
  obtain ⟨D, D', hm1, hsz, hD, rfl, hm2⟩ := hm
  obtain ⟨es, clock, hmb, _⟩ := id hm1
  have hmne : ∀ {k : Nat} {o : Obj}, W.heap[k]? = some o → (∀ es c, o ≠ Obj.map es c) → W'.heap[k]? = W.heap[k]? := by
    intro k o hk hc
    refine ho k (lt_of_block hk) ?_
    rintro rfl
    rw [hmb] at hk; cases hk; exact hc _ _ rfl
  have hfn := Orc.find_none hf
  have hcan := hm1.canon (string_keyed Tryz.underlying9)
  refine ⟨⟨(hmne h.hb (fun _ _ e => by cases e)).trans h.hb, ⟨_, by rw [List.length_append]; exact hm2, ?_, fun s hs => ?_⟩, ?_, ?_, ?_, ?_, ?_, h.lo, by rw [List.length_append]; simp; omega⟩, ?_⟩
  · obtain ⟨es2, e2, hp, _⟩ := hcan
    have htidy : Maps.Tidy D := ⟨es2, e2, apart_of_rising hp⟩
    rw [Maps.size_put htidy, (hD q.kn.name hns).1, hf, hsz, List.length_append]
    rfl
  · have hmap : Maps.IsMap D := by obtain ⟨es2, e2, _⟩ := hcan; exact ⟨es2, e2⟩
    rw [find_append]
    by_cases e : q.kn.name = s
    · subst e
      rw [hf, if_pos rfl, has_put_same hmap (nameK_key _ hs), atKey_put_same hmap (nameK_key _ hs)]
      exact ⟨rfl, rfl⟩
    · have hk : nameK s ≠ nameK q.kn.name := fun e2 => e (nameK_inj e2).symm
      rw [if_neg e, has_put_other hk, atKey_put_other hk, Option.or_none]
      exact hD s hs
  · intro x hx
    rcases List.mem_append.1 hx with hx | hx
    · have hk := h.kn x hx
      refine ⟨(hmne hk.blk (fun _ _ e => by cases e)).trans hk.blk, ?_, hk.lo⟩
      obtain ⟨h0, h1 | ⟨g, cap, cur, hv, h3, h4, h5⟩⟩ := hk.row
      · exact ⟨h0, Or.inl h1⟩
      · exact ⟨h0, Or.inr ⟨g, cap, cur, hv, h3, (hmne h4 (fun _ _ e => by cases e)).trans h4, h5⟩⟩
    · obtain rfl := List.mem_singleton.1 hx
      exact hK
  · rw [List.pairwise_append]
    exact ⟨h.names, List.pairwise_singleton _ _, fun a ha b hb => by obtain rfl := List.mem_singleton.1 hb; exact hfn a ha⟩
  · rw [List.pairwise_append]
    exact ⟨h.blocks, List.pairwise_singleton _ _, fun a ha b hb => by
      obtain rfl := List.mem_singleton.1 hb
      have := lt_of_block (h.kn a ha).blk
      omega⟩
  · rw [List.pairwise_append]
    exact ⟨h.rows, List.pairwise_singleton _ _, fun a ha b hb => by
      obtain rfl := List.mem_singleton.1 hb
      rw [hsv]; intro g _ e; cases e⟩
  · intro x hx
    rcases List.mem_append.1 hx with hx | hx
    · exact h.fits x hx
    · obtain rfl := List.mem_singleton.1 hx; exact hfit
  · rintro k (rfl | rfl | ⟨x, hx, hk⟩)
    · exact .inl (.inl rfl)
    · exact .inl (.inr (.inl rfl))
    · rcases List.mem_append.1 hx with hx | hx
      · exact .inl (.inr (.inr ⟨x, hx, hk⟩))
      · obtain rfl := List.mem_singleton.1 hx
        rcases hk with rfl | hk
        · exact .inr hkb
        · rw [hsv] at hk; cases hk
def NewPost (w : World) (e : Ending) (w' : World) : Prop := ∃ tb mb, e = .returned (.pointer (some ⟨tb, 0, none⟩)) ∧ TabAt w.heap.size tb mb [] w' ∧ Below w.heap.size w w'
theorem tabNew_any (w : World) : Calls Tryz.prog 16 #[] w (NewPost w) := by
  have hmm := @run_makeMap Tryz.prog
  go_enter Tryz.func16, Tryz.ntmps16
  go_wp2_with fail
  go_ret
  refine ⟨w.heap.size + 1, w.heap.size, rfl, ⟨?_, ⟨.map [], (World.ownsMap_made w _ _ _).alloc _, rfl, fun s _ => ⟨rfl, rfl⟩⟩, fun q hq => (by cases hq), List.Pairwise.nil, List.Pairwise.nil, List.Pairwise.nil, fun q hq => (by cases hq), ⟨by omega, Nat.le_refl _⟩, by simp⟩, ((Below.refl _ _).alloc (Nat.le_refl _) _).alloc (by simp) _⟩
  have := heap_alloc_new (w.alloc (.map #[] 0)) (.cells #[.map (some w.heap.size)] 78)
  simpa using this
def seqOf (Q : List Orc.Kb) (s : ByteArray) : Int := match Orc.find Q s with | none => 0 | some q => q.kn.seq
theorem seq_any (base tb mb : Nat) (Q : List Orc.Kb) (s : ByteArray) (w : World) (h : TabAt base tb mb Q w) (hs : s.size ≤ maxLen) :
    Calls Tryz.prog 22 #[.pointer (some ⟨tb, 0, none⟩), .string s] w (Ret (.int .i64 (seqOf Q s)) w) := by
  have hl := h.look s hs false
  have c0 := (block_cells h.hb).1 0 _ rfl
  unfold seqOf
  cases hf : Orc.find Q s with
  | none =>
    rw [hf] at hl
    replace hl : (Instr.lookup 76 (.map (some mb)) (.string s) false).run Tryz.prog w = .ok (.pointer none) w := hl
    clear h hs hf
    go_enter Tryz.func22, Tryz.ntmps22
    go_wp2_with fail
    go_ret
    exact ⟨rfl, rfl⟩
  | some q =>
    rw [hf] at hl
    replace hl : (Instr.lookup 76 (.map (some mb)) (.string s) false).run Tryz.prog w = .ok (.pointer (some ⟨q.kb, 0, none⟩)) w := hl
    have c1 := (block_cells (h.kn q (Orc.find_mem hf).1).blk).1 1 _ rfl
    clear h hs hf
    go_enter Tryz.func22, Tryz.ntmps22
    go_wp2_with fail
    go_ret
    exact ⟨rfl, rfl⟩
theorem seq_nil (s : ByteArray) (w : World) : Calls Tryz.prog 22 #[.pointer none, .string s] w (Ret (.int .i64 0) w) := by
  go_enter Tryz.func22, Tryz.ntmps22
  go_wp2_with fail
  go_ret
  exact ⟨rfl, rfl⟩
end Go.Proofs.YtmddaomchhigbaaGreatDoor
