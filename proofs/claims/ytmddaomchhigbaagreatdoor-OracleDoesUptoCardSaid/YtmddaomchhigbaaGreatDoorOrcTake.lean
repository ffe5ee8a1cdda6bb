/- Proved: take as a contract: a tip is taken, or refused. -/
import Derived.Test.YtmddaomchhigbaaGreatDoorOrcSet
import Derived.Deep.CutBlock
import Derived.Deep.DeepCutAuto
import Derived.IntWalk
namespace Go.Proofs.YtmddaomchhigbaaGreatDoor
open Go.RowKit Go.Maps
open Led Orc
set_option linter.unusedVariables false
set_option linter.unusedSimpArgs false
set_option maxRecDepth 100000
namespace Orc
def lastDay (l : List (Int × Int)) : Int := match l.getLast? with | none => -1 | some x => x.1
/-- The number of a refusal; 0: the tip is taken. -/
def tkCode (L : List Kn) (t : Tip) (today : Int) : Int :=
  match findK L t.feed with
  | none => 211
  | some k => if sign t k.key ≠ t.tag then 212 else if t.seq ≤ k.seq then 213 else if today < t.day ∨ t.day ≤ lastDay k.stamps then 214 else if k.stamps.length = 4096 then 215 else 0
def tkKn (k : Kn) (t : Tip) : Kn := { k with seq := t.seq, stamps := k.stamps ++ [(t.day, t.n)] }
def tkNext (L : List Kn) (t : Tip) (today : Int) : List Kn :=
  match findK L t.feed with
  | none => L
  | some k => if tkCode L t today = 0 then L.map (updK t.feed (tkKn k t)) else L
end Orc
/-- What take leaves: the tip and the table that has it, or a refusal. -/
def TakePost (base tb mb : Nat) (Q : List Orc.Kb) (l : List UInt8) (today : Int) (w : World) (e : Ending) (w' : World) : Prop :=
  (∃ t, Orc.dec l = some t ∧ Orc.tkCode (Q.map (·.kn)) t today = 0 ∧ e = .returned (.tuple #[.agg #[.string t.feed, .int .i64 t.day, .int .i64 t.n, .int .i64 t.seq, .string t.tag], .nilIface]) ∧ TabStep base tb mb Q (Orc.tkNext (Q.map (·.kn)) t today) w w') ∨
  (∃ c b s, c ≠ 0 ∧ ((Orc.dec l = none ∧ c = 210) ∨ ∃ t, Orc.dec l = some t ∧ c = Orc.tkCode (Q.map (·.kn)) t today) ∧ w.heap.size ≤ b ∧ RefusalAt w' b c s ∧ e = .returned (.tuple #[.agg #[.string ⟨#[]⟩, .int .i64 0, .int .i64 0, .int .i64 0, .string ⟨#[]⟩], .iface 101 (.pointer (some ⟨b, 0, none⟩))]) ∧ Below w.heap.size w w')
/-- While take runs: its result's cell, its tip. -/
structure TkAt (w : World) (rb xb : Nat) (t : Orc.Tip) (W : World) : Prop where
  bel : Below w.heap.size w W
  kr : W.heap[rb]? = some (.cells #[.string ⟨#[]⟩, .int .i64 0, .int .i64 0, .int .i64 0, .string ⟨#[]⟩] 23 (0, 0))
  kx : TipBox W xb t
  lo : w.heap.size ≤ rb ∧ w.heap.size ≤ xb ∧ xb ≠ rb
theorem TkAt.below {w : World} {rb xb : Nat} {t : Orc.Tip} {W W' : World} (h : TkAt w rb xb t W) (B : Below W.heap.size W W') : TkAt w rb xb t W' :=
  ⟨Below.more h.bel B, block_kept B h.kr, h.kx.below B, h.lo⟩
theorem TkAt.cells {w : World} {rb xb : Nat} {t : Orc.Tip} {W : World} (h : TkAt w rb xb t W) : W.cell? ⟨rb, 0, none⟩ = some (.string ⟨#[]⟩) ∧ W.cell? ⟨rb, 1, none⟩ = some (.int .i64 0) ∧ W.cell? ⟨rb, 2, none⟩ = some (.int .i64 0) ∧ W.cell? ⟨rb, 3, none⟩ = some (.int .i64 0) ∧ W.cell? ⟨rb, 4, none⟩ = some (.string ⟨#[]⟩) ∧
    W.frozen? ⟨rb, 0, none⟩ = false ∧ W.frozen? ⟨rb, 1, none⟩ = false ∧ W.frozen? ⟨rb, 2, none⟩ = false ∧ W.frozen? ⟨rb, 3, none⟩ = false ∧ W.frozen? ⟨rb, 4, none⟩ = false := by
  obtain ⟨c, f⟩ := block_cells h.kr
  exact ⟨c 0 _ rfl, c 1 _ rfl, c 2 _ rfl, c 3 _ rfl, c 4 _ rfl, f 0, f 1, f 2, f 3, f 4⟩
/-- A refusal at the end. -/
theorem take_no {base tb mb : Nat} {Q : List Orc.Kb} {l : List UInt8} {today : Int} {w : World} {rb xb : Nat} {t : Orc.Tip} {W : World} {c : Int} (h : TkAt w rb xb t W) (hd : Orc.dec l = some t) (hc : Orc.tkCode (Q.map (·.kn)) t today = c) (h0 : c ≠ 0) (s : ByteArray) (x0 x1 x2 x3 x4 : Value) :
    TakePost base tb mb Q l today w (.returned (.tuple #[.agg #[.string ⟨#[]⟩, .int .i64 0, .int .i64 0, .int .i64 0, .string ⟨#[]⟩], .iface 101 (.pointer (some ⟨W.heap.size, 0, none⟩))]))
      ((((((W.alloc (.cells #[.int .i64 c, .string s] 105)).setCell ⟨rb, 0, none⟩ x0).setCell ⟨rb, 1, none⟩ x1).setCell ⟨rb, 2, none⟩ x2).setCell ⟨rb, 3, none⟩ x3).setCell ⟨rb, 4, none⟩ x4) := by
  have hlt := lt_of_block h.kr
  refine .inr ⟨c, W.heap.size, s, h0, .inr ⟨t, hd, hc.symm⟩, h.bel.size, ?_, rfl, five_below (h.bel.alloc h.bel.size _) h.lo.1 _ _ _ _ _⟩
  unfold RefusalAt
  rw [five_other _ (by omega)]
  exact heap_alloc_new W _
theorem code_key {Q : List Orc.Kb} {t : Orc.Tip} {today : Int} (h : Orc.find Q t.feed = none) : Orc.tkCode (Q.map (·.kn)) t today = 211 := by
  unfold Orc.tkCode; rw [Orc.findK_is, h]; rfl
theorem code_is {Q : List Orc.Kb} {t : Orc.Tip} {today : Int} {q : Orc.Kb} (h : Orc.find Q t.feed = some q) : Orc.tkCode (Q.map (·.kn)) t today = if Orc.sign t q.kn.key ≠ t.tag then 212 else if t.seq ≤ q.kn.seq then 213 else if today < t.day ∨ t.day ≤ Orc.lastDay q.kn.stamps then 214 else if q.kn.stamps.length = 4096 then 215 else 0 := by
  unfold Orc.tkCode; rw [Orc.findK_is, h]; rfl
theorem lastDay_none {l : List (Int × Int)} (h : l.length = 0) : Orc.lastDay l = -1 := by rw [List.length_eq_zero_iff.1 h]; rfl
theorem lastDay_at {l : List (Int × Int)} {x : Int × Int} (h : l[l.length - 1]? = some x) : Orc.lastDay l = x.1 := by
  unfold Orc.lastDay; rw [List.getLast?_eq_getElem?, h]
theorem info_stamp : (Tryz.prog.info? 54).map (fun i => (i.zero, i.size, i.bytes)) = some (some (.agg #[.int .i64 0, .int .i64 0]), 2, 16) := by kernel_rfl
structure SameBut (W W' : World) (b : Nat) : Prop where
  os : W'.os = W.os
  tape : W'.tape = W.tape
  output : W'.output = W.output
  size : W'.heap.size = W.heap.size
  block : ∀ k, k ≠ b → W'.heap[k]? = W.heap[k]?
theorem SameBut.set {W W1 : World} {b : Nat} (h : SameBut W W1 b) (o : Nat) (x : Value) : SameBut W (W1.setCell ⟨b, o, none⟩ x) b :=
  ⟨h.os, h.tape, h.output, by simpa using h.size, fun k hk => (Below.heap_setCell _ _ _ _ hk).trans (h.block k hk)⟩
theorem five_same (W : World) (b : Nat) (x0 x1 x2 x3 x4 : Value) : SameBut W (((((W.setCell ⟨b, 0, none⟩ x0).setCell ⟨b, 1, none⟩ x1).setCell ⟨b, 2, none⟩ x2).setCell ⟨b, 3, none⟩ x3).setCell ⟨b, 4, none⟩ x4) b :=
  (((((SameBut.mk rfl rfl rfl rfl (fun _ _ => rfl) : SameBut W W b).set 0 x0).set 1 x1).set 2 x2).set 3 x3).set 4 x4
set_option maxHeartbeats 1000000 in
/-- The tip is taken: its number and its stamp are laid. -/
theorem take_yes' {base tb mb : Nat} {Q : List Orc.Kb} {l : List UInt8} {today : Int} {w W : World} {rb xb : Nat} {t : Orc.Tip} {q : Orc.Kb} (h : TabAt base tb mb Q w) (hT : TkAt w rb xb t W) (hd : Orc.dec l = some t) (hf : Orc.find Q t.feed = some q) (hc : Orc.tkCode (Q.map (·.kn)) t today = 0)
    {W2 : World} {g cap : Nat} (hr : W2.ownsRow base 54 2 (.slice (some ⟨g, 0, none⟩) (q.kn.stamps.length + 1) cap) (q.kn.stamps.length + 1) (stampCells q.kn.stamps ++ [.int .i64 t.day, .int .i64 t.n]))
    (hg : (W.setCell ⟨q.kb, 1, none⟩ (.int .i64 t.seq)).grownBy W2 q.sv.ownBlock) (hgb : q.sv.ownBlock = some g ∨ W.heap.size ≤ g) (x0 x1 x2 x3 x4 : Value) :
    (W2.cell? ⟨q.kb, 2, none⟩ = some q.sv ∧ W2.frozen? ⟨q.kb, 2, none⟩ = false) ∧ ((W2.setCell ⟨q.kb, 2, none⟩ (.slice (some ⟨g, 0, none⟩) (q.kn.stamps.length + 1) cap)).heap[rb]? = some (.cells #[.string ⟨#[]⟩, .int .i64 0, .int .i64 0, .int .i64 0, .string ⟨#[]⟩] 23 (0, 0)) ∧ TipBox (W2.setCell ⟨q.kb, 2, none⟩ (.slice (some ⟨g, 0, none⟩) (q.kn.stamps.length + 1) cap)) xb t) ∧
    TakePost base tb mb Q l today w (.returned (.tuple #[.agg #[.string t.feed, .int .i64 t.day, .int .i64 t.n, .int .i64 t.seq, .string t.tag], .nilIface]))
      ((((((W2.setCell ⟨q.kb, 2, none⟩ (.slice (some ⟨g, 0, none⟩) (q.kn.stamps.length + 1) cap)).setCell ⟨rb, 0, none⟩ x0).setCell ⟨rb, 1, none⟩ x1).setCell ⟨rb, 2, none⟩ x2).setCell ⟨rb, 3, none⟩ x3).setCell ⟨rb, 4, none⟩ x4) := by
  obtain ⟨hq, hn⟩ := Orc.find_mem hf
  have hW := h.below hT.bel
  have hqW := hW.kn q hq
  have hright := (Orc.enc_dec hd).2
  obtain ⟨_, d1, d2, n1, n2, s1, s2⟩ := Orc.core_parts (Orc.right_core hright).1
  rw [code_is hf] at hc
  have hst : q.kn.stamps.length ≠ 4096 := by
    intro e
    rw [if_pos e] at hc
    split at hc
    · cases hc
    · split at hc
      · cases hc
      · split at hc <;> cases hc
  have hfit := h.fits q hq
  have hlt := lt_of_block hqW.blk
  have k1 : (W.setCell ⟨q.kb, 1, none⟩ (.int .i64 t.seq)).heap[q.kb]? = some (.cells #[.string q.kn.key, .int .i64 t.seq, q.sv] 82 (0, 0)) := heap_setCell_same _ _ _ _ _ _ hqW.blk
  have hown : ∀ {k : Nat} {o : Obj}, W.heap[k]? = some o → (∀ (cur : Array Value) (fr : Nat × Nat), o ≠ Obj.cells cur 54 fr) → q.sv.ownBlock ≠ some k := fun hk ho => hqW.row.ne hk ho
  have k2 : W2.heap[q.kb]? = some (.cells #[.string q.kn.key, .int .i64 t.seq, q.sv] 82 (0, 0)) := (hg.block q.kb (by simpa using hlt) (fun e => hown hqW.blk (fun _ _ e => by cases e) e.symm)).trans k1
  obtain ⟨v', hv'⟩ : ∃ v' : Value, v' = .slice (some ⟨g, 0, none⟩) (q.kn.stamps.length + 1) cap := ⟨_, rfl⟩
  rw [← hv'] at hr ⊢
  have k3 : (W2.setCell ⟨q.kb, 2, none⟩ v').heap[q.kb]? = some (.cells #[.string q.kn.key, .int .i64 t.seq, v'] 82 (0, 0)) := heap_setCell_same _ _ _ _ _ _ k2
  have hoth : ∀ k, k < W.heap.size → k ≠ q.kb → q.sv.ownBlock ≠ some k → (W2.setCell ⟨q.kb, 2, none⟩ v').heap[k]? = W.heap[k]? := by
    intro k hk h1 h2
    rw [Below.heap_setCell _ _ _ _ (show k ≠ q.kb from h1), hg.block k (by simpa using hk) (fun e => h2 e.symm), Below.heap_setCell _ _ _ _ (show k ≠ q.kb from h1)]
  have hgb2 : v'.ownBlock = some g := by rw [hv']; rfl
  obtain ⟨u1, u2⟩ := hW.update (W' := W2.setCell ⟨q.kb, 2, none⟩ v') (q := q) (q' := ⟨Orc.tkKn q.kn t, q.kb, v'⟩) hq rfl rfl
    ⟨k3, by
      have hrow : StampRow base W2 v' (Orc.tkKn q.kn t).stamps := by
        show World.ownsRow W2 base _ 2 v' (q.kn.stamps ++ [(t.day, t.n)]).length (stampCells (q.kn.stamps ++ [(t.day, t.n)]))
        rw [List.length_append, stampCells_append]
        exact hr
      exact hrow.same fun k hk => Below.heap_setCell _ _ _ _ (by show k ≠ q.kb; rintro rfl; exact hrow.ne k2 (fun _ _ e => by cases e) hk), hqW.lo⟩
    ⟨hfit.name, hfit.key, ⟨by show 0 ≤ t.seq; omega, s2⟩, by show (q.kn.stamps ++ [(t.day, t.n)]).length ≤ 4096; rw [List.length_append]; have := hfit.stamps; simp; omega, fun x hx => by
      rcases List.mem_append.1 hx with hx | hx
      · exact hfit.days x hx
      · obtain rfl := List.mem_singleton.1 hx
        exact ⟨d1, d2, n1, n2⟩⟩
    (fun g' hg' => by rw [hgb2] at hg'; cases hg'; exact hgb) hoth
  have c2 := block_cells k2
  have hrne : ∀ k, Foot tb mb Q k → k ≠ rb := fun k hk => by have := (h.foot hk).2; have := hT.lo.1; omega
  have hrlt := lt_of_block hT.kr
  have h5 := five_same (W2.setCell ⟨q.kb, 2, none⟩ v') rb x0 x1 x2 x3 x4
  generalize (((((W2.setCell ⟨q.kb, 2, none⟩ v').setCell ⟨rb, 0, none⟩ x0).setCell ⟨rb, 1, none⟩ x1).setCell ⟨rb, 2, none⟩ x2).setCell ⟨rb, 3, none⟩ x3).setCell ⟨rb, 4, none⟩ x4 = W5 at h5 ⊢
  refine ⟨⟨c2.1 2 _ rfl, c2.2 2⟩, ⟨?_, ?_⟩, .inl ⟨t, hd, by rw [code_is hf]; exact hc, rfl, _, ?_, u1.keep fun k hk => h5.block k ?_, ?_, fun k hk => ?_⟩⟩
  · rw [hoth rb hrlt (fun e => hrne q.kb (.inr (.inr ⟨q, hq, .inl rfl⟩)) e.symm) (fun e => hrne rb (.inr (.inr ⟨q, hq, .inr e⟩)) rfl)]
    exact hT.kr
  · have hxlt := lt_of_block hT.kx
    have hxne : ∀ k, Foot tb mb Q k → k ≠ xb := fun k hk => by have := (h.foot hk).2; have := hT.lo.2.1; omega
    unfold TipBox
    rw [hoth xb hxlt (fun e => hxne q.kb (.inr (.inr ⟨q, hq, .inl rfl⟩)) e.symm) (fun e => hxne xb (.inr (.inr ⟨q, hq, .inr e⟩)) rfl)]
    exact hT.kx
  · have hfk : Orc.findK (Q.map (·.kn)) t.feed = some q.kn := by rw [Orc.findK_is, hf]; rfl
    rw [Orc.upd_kn]
    unfold Orc.tkNext
    rw [hfk]
    simp only []
    rw [if_pos (by rw [code_is hf]; exact hc), hn]
  · rcases u2 k hk with h3 | h3
    · exact hrne k h3
    · omega
  · have hs2 := hg.size
    have hsz := hT.bel.size
    refine ⟨?_, ?_, ?_, ?_, fun k hk hF => ?_⟩
    · rw [h5.os]; show W2.os = _; rw [hg.os]; exact hT.bel.os
    · rw [h5.tape]; show W2.tape = _; rw [hg.tape]; exact hT.bel.tape
    · rw [h5.output]; show W2.output = _; rw [hg.output]; exact hT.bel.output
    · rw [h5.size]; simp at hs2 ⊢; omega
    · rw [h5.block k (by have := hT.lo.1; omega), hoth k (by omega) (fun e => hF (.inr (.inr ⟨q, hq, .inl e⟩))) (fun e => hF (.inr (.inr ⟨q, hq, .inr e⟩)))]
      exact hT.bel.block k hk
  · rcases u2 k hk with h3 | h3
    · exact .inl h3
    · exact .inr (Nat.le_trans hT.bel.size h3)
theorem step_stamp {w : World} {ops : Array Oper} {o : Oper} {a : Act} {K : Act → World → Prop} {Q : Exit → Act → World → Prop} {E : Prop} (hgd : o.guard = none) (s x : Operand)
    (ho : o.op = .call { callee := .builtin .append, args := #[s, x], argTypes := #[50, 50] })
    (base : Nat) (v : Value) (q : List (Int × Int)) (hs : a.eval s = v) (hown : StampRow base w v q) (g : Nat) (hx : a.eval x = .slice (some ⟨g, 0, none⟩) 1 1)
    (u1 u2 : Value) (hg : w.heap[g]? = some (.cells #[u1, u2] 54 (0, 0))) (o1 : u1.oneCell' = true) (o2 : u2.oneCell' = true)
    (hbound : q.length + 1 ≤ 100000) (hbase : base ≤ w.heap.size)
    (h : ∀ g' cap w', w'.ownsRow base 54 2 (.slice (some ⟨g', 0, none⟩) (q.length + 1) cap) (q.length + 1) (stampCells q ++ [u1, u2]) → w.grownBy w' v.ownBlock → (v.ownBlock = some g' ∨ g' = w.heap.size) → K (a.put o.dst (.slice (some ⟨g', 0, none⟩) (q.length + 1) cap)) w') :
    if Region.wanted o (yielded ops a.tmps) = true then Oper.wp Tryz.prog o a w K Q else E := by
  obtain ⟨i, hi, hz, hsz, hby⟩ := info_parts info_stamp
  refine step_append_lies _ hgd s x 50 ho base 54 i _ 2 16 Tryz.underlying50 hi hz hsz hby rfl (by decide) v q.length _ hs hown ⟨g, 0, none⟩ 1 1 [u1, u2] hx rfl (World.news_of_block hg) (fun u hu => ?_) (by omega) (by unfold maxLen; omega) (by omega) hbase _ rfl (fun g' cap w' h1 h2 h3 _ => h g' cap w' h1 h2 h3)
  simp only [List.mem_cons, List.not_mem_nil, or_false] at hu
  rcases hu with rfl | rfl
  · exact o1
  · exact o2
theorem TabAt.kb {base tb mb : Nat} {Q : List Orc.Kb} {W : World} (h : TabAt base tb mb Q W) {s : ByteArray} {q : Orc.Kb} (hf : Orc.find Q s = some q) : W.cell? ⟨q.kb, 0, none⟩ = some (.string q.kn.key) ∧ W.cell? ⟨q.kb, 1, none⟩ = some (.int .i64 q.kn.seq) ∧ W.cell? ⟨q.kb, 2, none⟩ = some q.sv ∧ ∀ o, W.frozen? ⟨q.kb, o, none⟩ = false := by
  obtain ⟨c, f⟩ := block_cells (h.kn q (Orc.find_mem hf).1).blk
  exact ⟨c 0 _ rfl, c 1 _ rfl, c 2 _ rfl, f⟩
/-- The table's number is laid; the stamp's own block is made. -/
theorem stamp_ahead {base tb mb : Nat} {Q : List Orc.Kb} {w W : World} {q : Orc.Kb} {rb xb : Nat} {t : Orc.Tip} (h : TabAt base tb mb Q w) (hT : TkAt w rb xb t W) (hf : Orc.find Q t.feed = some q) (x : Value) :
    StampRow base ((W.setCell ⟨q.kb, 1, none⟩ x).alloc (.cells #[.int .i64 t.day, .int .i64 t.n] 54)).drew q.sv q.kn.stamps ∧ (W.setCell ⟨q.kb, 1, none⟩ x).grownBy ((W.setCell ⟨q.kb, 1, none⟩ x).alloc (.cells #[.int .i64 t.day, .int .i64 t.n] 54)).drew q.sv.ownBlock ∧
    ((W.setCell ⟨q.kb, 1, none⟩ x).alloc (.cells #[.int .i64 t.day, .int .i64 t.n] 54)).drew.heap[(W.setCell ⟨q.kb, 1, none⟩ x).heap.size]? = some (.cells #[.int .i64 t.day, .int .i64 t.n] 54 (0, 0)) ∧
    ((W.setCell ⟨q.kb, 1, none⟩ x).cell? ⟨q.kb, 2, none⟩ = some q.sv ∧ (W.setCell ⟨q.kb, 1, none⟩ x).cell? ⟨xb, 1, none⟩ = some (.int .i64 t.day) ∧ (W.setCell ⟨q.kb, 1, none⟩ x).cell? ⟨xb, 2, none⟩ = some (.int .i64 t.n) ∧ W.heap.size = (W.setCell ⟨q.kb, 1, none⟩ x).heap.size) := by
  have hq := (Orc.find_mem hf).1
  have hW := h.below hT.bel
  have hqW := hW.kn q hq
  have k1 : (W.setCell ⟨q.kb, 1, none⟩ x).heap[q.kb]? = some (.cells #[.string q.kn.key, x, q.sv] 82 (0, 0)) := heap_setCell_same _ _ _ _ _ _ hqW.blk
  have hr1 : StampRow base (W.setCell ⟨q.kb, 1, none⟩ x) q.sv q.kn.stamps := hqW.row.same fun k hk => Below.heap_setCell _ _ _ _ (by show k ≠ q.kb; rintro rfl; exact hqW.row.ne hqW.blk (fun _ _ e => by cases e) hk)
  have hB : Below (W.setCell ⟨q.kb, 1, none⟩ x).heap.size (W.setCell ⟨q.kb, 1, none⟩ x) ((W.setCell ⟨q.kb, 1, none⟩ x).alloc (.cells #[.int .i64 t.day, .int .i64 t.n] 54)).drew := ((Below.refl _ _).alloc (Nat.le_refl _) _).drew
  have c := (block_cells k1).1
  have hne : xb ≠ q.kb := by have := (h.foot (.inr (.inr ⟨q, hq, .inl rfl⟩))).2; have := hT.lo.2.1; omega
  have hx : TipBox (W.setCell ⟨q.kb, 1, none⟩ x) xb t := by
    unfold TipBox; rw [Below.heap_setCell _ _ _ _ (show xb ≠ q.kb from hne)]; exact hT.kx
  obtain ⟨_, x1, x2, _⟩ := hx.cells
  exact ⟨hr1.same fun k hk => hB.block k ((World.ownsRow.lt hr1 k hk).2), ⟨hB.os, hB.tape, hB.output, hB.size, fun k hk _ => hB.block k hk⟩, heap_alloc_new _ _, c 2 _ rfl, x1, x2, by simp⟩
set_option maxHeartbeats 8000000 in
theorem take_any (fr : Nat × Nat × Nat) (base tb mb : Nat) (Q : List Orc.Kb) (v0 : Value) (l : List UInt8) (today : Int) (w : World) (h : TabAt base tb mb Q w) (hbase : base ≤ w.heap.size) (hr : Reads0 w v0 l) (hl : l.length ≤ 100000000) (hk : Hid (Keys fr w)) (ht : 0 ≤ today ∧ today ≤ 73048) :
    Calls Tryz.prog 41 #[.pointer (some ⟨tb, 0, none⟩), v0, .int .i64 today] w (TakePost base tb mb Q l today w) := by
  have HH := hid' h
  have HBS := hid' hbase
  have hB0 : Below w.heap.size w (w.alloc (.cells #[.string ⟨#[]⟩, .int .i64 0, .int .i64 0, .int .i64 0, .string ⟨#[]⟩] 23)) := (Below.refl _ _).alloc (Nat.le_refl _) _
  have HRD := hid' (read_any0 v0 l (w.alloc (.cells #[.string ⟨#[]⟩, .int .i64 0, .int .i64 0, .int .i64 0, .string ⟨#[]⟩] 23)) (hr.below hB0) hl)
  have HRB := hid' (heap_alloc_new w (.cells #[.string ⟨#[]⟩, .int .i64 0, .int .i64 0, .int .i64 0, .string ⟨#[]⟩] 23))
  have HB0 := hid' hB0
  obtain ⟨p0, c0, rfl⟩ := hr.len
  clear h hbase hr hl hB0
  go_enter Tryz.func41, Tryz.ntmps41
  go_wp2_with fail
  refine HRD.out.mono ?_
  intro e w1 hp
  obtain ⟨hb1, ⟨t, hd, rfl⟩ | ⟨hd, eb, es, heb, hre, rfl⟩⟩ := hp
  case inr =>
    have HD := hid' hd
    have hb2 : Below w1.heap.size w1 (w1.alloc (.cells #[.string ⟨#[]⟩, .int .i64 0, .int .i64 0, .int .i64 0, .string ⟨#[]⟩] 23)) := (Below.refl _ _).alloc (Nat.le_refl _) _
    have hkr := block_kept hb2 (block_kept hb1 HRB.out)
    have HRE := hid' (hre.below hb2)
    have HW := hid' (Below.more (Below.more HB0.out hb1) hb2)
    have HEB := hid' (show w.heap.size < eb by simp at heb; omega)
    obtain ⟨rb, hrb⟩ : ∃ rb, rb = w.heap.size := ⟨_, rfl⟩
    rw [← hrb] at hkr
    have HRL := hid' (show w.heap.size ≤ rb ∧ rb ≠ eb by have := HEB.out; omega)
    obtain ⟨c, f⟩ := block_cells hkr
    have r0 := c 0 _ rfl
    have r1 := c 1 _ rfl
    have r2 := c 2 _ rfl
    have r3 := c 3 _ rfl
    have r4 := c 4 _ rfl
    have f0 := f 0
    have f1 := f 1
    have f2 := f 2
    have f3 := f 3
    have f4 := f 4
    rw [← hrb]
    clear hd hb1 hb2 hkr hre heb c f hrb HRB HRD
    go_upto_region 2 with (fail)
    generalize w1.alloc (.cells #[.string ⟨#[]⟩, .int .i64 0, .int .i64 0, .int .i64 0, .string ⟨#[]⟩] 23) = w2 at *
    go_wp2_with fail
    refine bodyPost_ret (v := .tuple #[.agg #[.string ⟨#[]⟩, .int .i64 0, .int .i64 0, .int .i64 0, .string ⟨#[]⟩], .iface 101 (.pointer (some ⟨eb, 0, none⟩))]) ?_ rfl ?_
    · simp [results, Tryz.results41, go_sem, r0, r1, r2, r3, r4]
    · exact .inr ⟨210, eb, es, by decide, .inl ⟨HD.out, rfl⟩, Nat.le_of_lt HEB.out, by unfold RefusalAt; rw [five_other _ (fun e => HRL.out.2 e.symm)]; exact HRE.out, rfl, five_below HW.out HRL.out.1 _ _ _ _ _⟩
  case inl =>
    have HD := hid' hd
    have hb2 : Below w1.heap.size w1 (w1.alloc (.cells #[.string t.feed, .int .i64 t.day, .int .i64 t.n, .int .i64 t.seq, .string t.tag] 23)) := (Below.refl _ _).alloc (Nat.le_refl _) _
    have hkr := block_kept hb1 HRB.out
    have hlt := lt_of_block hkr
    have hT : TkAt w w.heap.size w1.heap.size t (w1.alloc (.cells #[.string t.feed, .int .i64 t.day, .int .i64 t.n, .int .i64 t.seq, .string t.tag] 23)) :=
      ⟨Below.more (Below.more HB0.out hb1) hb2, block_kept hb2 hkr, TipBox.new w1 t, Nat.le_refl _, (Below.more HB0.out hb1).size, by omega⟩
    have HT0 := hid' hT
    clear hd hb1 hb2 hT
    go_upto_region 2 with (fail)
    have hT := HT0.out
    obtain ⟨xb, hxb⟩ : ∃ xb, xb = w1.heap.size := ⟨_, rfl⟩
    rw [← hxb] at hT ⊢
    obtain ⟨rb, hrb⟩ : ∃ rb, rb = w.heap.size := ⟨_, rfl⟩
    have hT : TkAt w rb xb t (w1.alloc (.cells #[.string t.feed, .int .i64 t.day, .int .i64 t.n, .int .i64 t.seq, .string t.tag] 23)) := by rw [hrb]; exact hT
    rw [← hrb]
    have HT := hid' hT
    clear hkr hlt hT HT0 hxb hrb HRB HRD HB0
    generalize w1.alloc (.cells #[.string t.feed, .int .i64 t.day, .int .i64 t.n, .int .i64 t.seq, .string t.tag] 23) = w2 at *
    have h2 := HH.out.below HT.out.bel
    have HR := hid' (Orc.enc_dec HD.out).2
    have hcp := Orc.core_parts (Orc.right_core HR.out).1
    have hfl := Led.name_len hcp.1
    have hfs : t.feed.size ≤ maxLen := Nat.le_trans hfl (by decide)
    have hl0 := h2.look t.feed hfs true
    have hlN : ∀ n, (Instr.lookup 76 (.map (some mb)) (.string t.feed) true).run Tryz.prog (w2.drewN n) = _ := fun n => (h2.below (Below.drewn (Below.refl _ _) n)).look t.feed hfs true
    have c0 := (block_cells h2.hb).1 0 _ rfl
    obtain ⟨x0, x1, x2, x3, x4, _⟩ := HT.out.kx.cells
    have HFIT := hid' (show Orc.Fits t from ⟨by omega, by have := (Orc.right_core HR.out).2; omega, by omega, by omega, by omega⟩)
    have HTS := hid' (show -9223372036854775808 ≤ t.day ∧ t.day ≤ 73048 from ⟨by omega, by omega⟩)
    cases hf : Orc.find Q t.feed with
    | none =>
      have HC := hid' (code_key (today := today) hf)
      rw [hf] at hl0 hlN
      replace hl0 : (Instr.lookup 76 (.map (some mb)) (.string t.feed) true).run Tryz.prog w2 = .ok (.tuple #[.pointer none, .bool false]) w2 := hl0
      replace hlN : ∀ n, (Instr.lookup 76 (.map (some mb)) (.string t.feed) true).run Tryz.prog (w2.drewN n) = .ok (.tuple #[.pointer none, .bool false]) (w2.drewN n) := hlN
      clear h2 hcp hfl hfs hf
      go_upto_region 4 with (fail)
      go_quiet (fail)
      have HT3 := hid' (HT.out.below (Below.drewn (Below.refl _ _) nq))
      clear hl0 hlN c0 x0 x1 x2 x3 x4
      generalize w2.drewN nq = w3 at *
      go_wp2_with fail
      refine (refuse_any _ _ _).mono ?_
      rintro e w4 ⟨rfl, hw4⟩
      have HT4 := hid' (show TkAt w rb xb t w4 by rw [hw4]; exact HT3.out.below ((Below.refl _ _).alloc (Nat.le_refl _) _))
      have HW4 := hid' hw4
      obtain ⟨r0, r1, r2, r3, r4, f0, f1, f2, f3, f4⟩ := HT4.out.cells
      clear hw4
      go_wp2_with fail
      refine bodyPost_ret (v := .tuple #[.agg #[.string ⟨#[]⟩, .int .i64 0, .int .i64 0, .int .i64 0, .string ⟨#[]⟩], .iface 101 (.pointer (some ⟨w3.heap.size, 0, none⟩))]) ?_ rfl ?_
      · simp [results, Tryz.results41, go_sem, r0, r1, r2, r3, r4]
      · have := take_no (base := base) (tb := tb) (mb := mb) HT3.out HD.out HC.out (by decide) ⟨#[97, 32, 102, 101, 101, 100, 32, 119, 105, 116, 104, 111, 117, 116, 32, 97, 32, 107, 101, 121]⟩ (.string ⟨#[]⟩) (.int .i64 0) (.int .i64 0) (.int .i64 0) (.string ⟨#[]⟩)
        rw [← HW4.out] at this
        exact this
    | some q =>
      have HF := hid' hf
      rw [hf] at hl0 hlN
      replace hl0 : (Instr.lookup 76 (.map (some mb)) (.string t.feed) true).run Tryz.prog w2 = .ok (.tuple #[.pointer (some ⟨q.kb, 0, none⟩), .bool true]) w2 := hl0
      replace hlN : ∀ n, (Instr.lookup 76 (.map (some mb)) (.string t.feed) true).run Tryz.prog (w2.drewN n) = .ok (.tuple #[.pointer (some ⟨q.kb, 0, none⟩), .bool true]) (w2.drewN n) := hlN
      clear h2 hcp hfl hfs hf
      go_upto_region 4 with (fail)
      go_quiet (fail)
      have HT3 := hid' (HT.out.below (Below.drewn (Below.refl _ _) nq))
      clear hl0 hlN c0 x0 x1 x2 x3 x4
      generalize w2.drewN nq = w3 at *
      have h3 := HH.out.below HT3.out.bel
      obtain ⟨k0, k1, k2, kf⟩ := h3.kb HF.out
      have hrow := (h3.kn q (Orc.find_mem HF.out).1).row
      obtain ⟨sp, sc, hsv, _, _⟩ := hrow.form
      have hn4 : q.kn.stamps.length ≤ 4096 := (HH.out.fits q (Orc.find_mem HF.out).1).stamps
      have HRW := hid' hrow
      have HSV := hid' hsv
      rw [hsv] at k2
      obtain ⟨n, hn⟩ : ∃ n, n = q.kn.stamps.length := ⟨_, rfl⟩
      rw [← hn] at k2 hn4
      have HN := hid' hn
      have hn5 : (n : Int) ≤ 4096 := by omega
      have hn6 : (0 : Int) ≤ (n : Int) := by omega
      clear h3 hrow hsv hn
      go_upto_if 43 with (fail)
      go_cut [12] (fun v wx => v = .int .i64 (Orc.lastDay q.kn.stamps) ∧ wx = w3)
      case first =>
        by_cases hz : n = 0
        · have g0 : ¬ 0 < n := by omega
          have HLD := hid' (lastDay_none (l := q.kn.stamps) (by rw [← HN.out]; exact hz))
          clear hz
          go_wp2_with fail
          go_meet
          exact ⟨by rw [HLD.out], rfl⟩
        · have g0 : 0 < n := by omega
          obtain ⟨x, hx⟩ : ∃ x, q.kn.stamps[q.kn.stamps.length - 1]? = some x := ⟨_, List.getElem?_eq_getElem (by have := HN.out; omega)⟩
          have HLD := hid' (lastDay_at hx)
          obtain ⟨sg, sc2, hs2, s0, s1⟩ := HRW.out.at hx
          rw [HSV.out] at hs2
          obtain ⟨rfl, rfl⟩ : sp = some ⟨sg, 0, none⟩ ∧ sc = sc2 := by simp at hs2; exact hs2
          rw [← HN.out] at s0
          have hw1 : IntKind.i64.wrap ((n : Int) - 1) = (n : Int) - 1 := IntWalk.i64_in _ (by omega)
          have hw2 : (0 : Int) ≤ (n : Int) - 1 := by omega
          have hw3 : (1 : Int) ≤ (n : Int) := by omega
          have hw4 : (n : Int) - 1 < (n : Int) := by omega
          have hw5 : ((n : Int) - 1).toNat = n - 1 := by omega
          clear hx hs2 hz s1
          go_wp2_with fail
          go_meet
          exact ⟨by rw [HLD.out], rfl⟩
      case rest =>
        obtain ⟨rfl, rfl⟩ := hcut
        clear k0 k2 kf HRW
        obtain ⟨sg, hsg⟩ : ∃ sg : ByteArray, Hid (sg = Orc.sign t q.kn.key) := ⟨_, hid' rfl⟩
        have HKF := hid' ((HH.out.fits q (Orc.find_mem HF.out).1).key)
        have HSG := hid' (fun (wx : World) (hb : Below wc.heap.size wc wx) => sign_any fr t q.kn.key wx HFIT.out (by have := HKF.out.2; omega) (keys_below hk (Below.more HT3.out.bel hb)))
        rw [← hsg.out] at HSG
        have HKC := hid' (fun (wx : World) (hb : Below wc.heap.size wc wx) => And.intro (HT3.out.below hb).kx.cells ((HH.out.below (HT3.out.below hb).bel).kb HF.out))
        have hbx := (Below.refl wc.heap.size wc).drew
        go_upto_region 11 with (fail)
        go_cut [53] (fun v wx => v = .bool (!decide (sg = t.tag)) ∧ ∃ wn, wn = wx ∧ Below wc.heap.size wc wn)
        case first =>
          by_cases hst : sg = t.tag
          · have g1 : (sg.toList == t.tag.toList) = true := by rw [hst]; simp
            have g2 : (sg.toList != t.tag.toList) = false := by rw [hst]; simp
            have HST := hid' (show Value.bool false = .bool (!decide (sg = t.tag)) by rw [decide_eq_true hst]; rfl)
            clear hst
            go_region_held3 (fun w' => w'.cell? ⟨xb, 0, none⟩ = some (.string t.feed) ∧ w'.cell? ⟨xb, 1, none⟩ = some (.int .i64 t.day) ∧ w'.cell? ⟨xb, 2, none⟩ = some (.int .i64 t.n) ∧ w'.cell? ⟨xb, 3, none⟩ = some (.int .i64 t.seq) ∧ w'.cell? ⟨xb, 4, none⟩ = some (.string t.tag) ∧ w'.cell? ⟨q.kb, 0, none⟩ = some (.string q.kn.key)) (exact ⟨(HKC.out _ hbx).1.1, (HKC.out _ hbx).1.2.1, (HKC.out _ hbx).1.2.2.1, (HKC.out _ hbx).1.2.2.2.1, (HKC.out _ hbx).1.2.2.2.2.1, (HKC.out _ hbx).2.1⟩) (first | (go_at_call 14; refine (HSG.out _ hbx).mono ?_; rintro e wa ⟨rfl, ba⟩; have hbx := Below.more hbx ba; clear ba))
            all_goals
              go_wp2_with fail
              go_meet
              exact ⟨HST.out, _, rfl, hbx⟩
          · have hne : ¬ (sg.toList = t.tag.toList) := by
              intro e
              rw [ByteArray.toList_eq, ByteArray.toList_eq] at e
              exact hst (ba_ext e)
            have g1 : (sg.toList == t.tag.toList) = false := by rw [beq_eq_false_iff_ne]; exact hne
            have g2 : (sg.toList != t.tag.toList) = true := by rw [bne_iff_ne]; exact hne
            have HST := hid' (show Value.bool true = .bool (!decide (sg = t.tag)) by rw [decide_eq_false hst]; rfl)
            clear hst hne
            go_region_held3 (fun w' => w'.cell? ⟨xb, 0, none⟩ = some (.string t.feed) ∧ w'.cell? ⟨xb, 1, none⟩ = some (.int .i64 t.day) ∧ w'.cell? ⟨xb, 2, none⟩ = some (.int .i64 t.n) ∧ w'.cell? ⟨xb, 3, none⟩ = some (.int .i64 t.seq) ∧ w'.cell? ⟨xb, 4, none⟩ = some (.string t.tag) ∧ w'.cell? ⟨q.kb, 0, none⟩ = some (.string q.kn.key)) (exact ⟨(HKC.out _ hbx).1.1, (HKC.out _ hbx).1.2.1, (HKC.out _ hbx).1.2.2.1, (HKC.out _ hbx).1.2.2.2.1, (HKC.out _ hbx).1.2.2.2.2.1, (HKC.out _ hbx).2.1⟩) (first | (go_at_call 14; refine (HSG.out _ hbx).mono ?_; rintro e wa ⟨rfl, ba⟩; have hbx := Below.more hbx ba; clear ba))
            all_goals
              go_wp2_with fail
              go_meet
              exact ⟨HST.out, _, rfl, hbx⟩
        case rest =>
          obtain ⟨rfl, w5, rfl, hb5⟩ := hcut
          have HT5 := hid' (HT3.out.below hb5)
          clear hb5 hbx HSG HKC
          by_cases hst : sg = t.tag
          · rw [decide_eq_true hst]
            have HSE := hid' (show Orc.sign t q.kn.key = t.tag by rw [← hsg.out]; exact hst)
            clear hst
            have h5 := HH.out.below HT5.out.bel
            obtain ⟨k0, k1, k2, kf⟩ := h5.kb HF.out
            obtain ⟨x0, x1, x2, x3, x4, _⟩ := HT5.out.kx.cells
            clear h5
            by_cases hsq : t.seq ≤ q.kn.seq
            · have g3 : decide (t.seq ≤ q.kn.seq) = true := decide_eq_true hsq
              have HC := hid' (show Orc.tkCode (Q.map (·.kn)) t today = 213 by rw [code_is HF.out, if_neg (by rw [HSE.out]; simp), if_pos hsq])
              clear hsq
              go_upto_region 13 with (fail)
              go_quiet (fail)
              have HT6 := hid' (HT5.out.below (Below.drewn (Below.refl _ _) nq))
              clear k0 k1 k2 kf x0 x1 x2 x3 x4
              generalize w5.drewN nq = w6 at *
              go_wp2_with fail
              refine (refuse_any _ _ _).mono ?_
              rintro e wz ⟨rfl, hwz⟩
              have HTZ := hid' (show TkAt w rb xb t wz by rw [hwz]; exact HT6.out.below ((Below.refl _ _).alloc (Nat.le_refl _) _))
              have HWZ := hid' hwz
              obtain ⟨r0, r1, r2, r3, r4, f0, f1, f2, f3, f4⟩ := HTZ.out.cells
              clear hwz
              go_wp2_with fail
              refine bodyPost_ret (v := .tuple #[.agg #[.string ⟨#[]⟩, .int .i64 0, .int .i64 0, .int .i64 0, .string ⟨#[]⟩], .iface 101 (.pointer (some ⟨(w6).heap.size, 0, none⟩))]) ?_ rfl ?_
              · simp [results, Tryz.results41, go_sem, r0, r1, r2, r3, r4]
              · have := take_no (base := base) (tb := tb) (mb := mb) HT6.out HD.out HC.out (by decide) ⟨#[97, 110, 32, 111, 108, 100, 32, 110, 117, 109, 98, 101, 114]⟩ (.string ⟨#[]⟩) (.int .i64 0) (.int .i64 0) (.int .i64 0) (.string ⟨#[]⟩)
                rw [← HWZ.out] at this
                exact this
            · have g3 : decide (t.seq ≤ q.kn.seq) = false := decide_eq_false hsq
              have HSQ := hid' hsq
              clear hsq
              go_upto_region 13 with (fail)
              go_quiet (fail)
              have HT6 := hid' (HT5.out.below (Below.drewn (Below.refl _ _) nq))
              clear k0 k1 k2 kf x0 x1 x2 x3 x4
              generalize w5.drewN nq = w6 at *
              have h6 := HH.out.below HT6.out.bel
              obtain ⟨k0, k1, k2, kf⟩ := h6.kb HF.out
              obtain ⟨x0, x1, x2, x3, x4, _⟩ := HT6.out.kx.cells
              clear h6
              have HCD := hid' (show (today < t.day ∨ t.day ≤ Orc.lastDay q.kn.stamps) → Orc.tkCode (Q.map (·.kn)) t today = 214 from fun e => by rw [code_is HF.out, if_neg (by rw [HSE.out]; simp), if_neg HSQ.out, if_pos e])
              by_cases hdy : today < t.day
              · have g5 : decide (today < t.day) = true := decide_eq_true hdy
                have HC := hid' (HCD.out (.inl hdy))
                clear hdy
                go_wp2_with fail
                refine (refuse_any _ _ _).mono ?_
                rintro e wz ⟨rfl, hwz⟩
                have HTZ := hid' (show TkAt w rb xb t wz by rw [hwz]; exact HT6.out.below ((Below.refl _ _).alloc (Nat.le_refl _) _))
                have HWZ := hid' hwz
                obtain ⟨r0, r1, r2, r3, r4, f0, f1, f2, f3, f4⟩ := HTZ.out.cells
                clear hwz
                go_wp2_with fail
                refine bodyPost_ret (v := .tuple #[.agg #[.string ⟨#[]⟩, .int .i64 0, .int .i64 0, .int .i64 0, .string ⟨#[]⟩], .iface 101 (.pointer (some ⟨(w6).heap.size, 0, none⟩))]) ?_ rfl ?_
                · simp [results, Tryz.results41, go_sem, r0, r1, r2, r3, r4]
                · have := take_no (base := base) (tb := tb) (mb := mb) HT6.out HD.out HC.out (by decide) ⟨#[97, 110, 111, 116, 104, 101, 114, 32, 100, 97, 121]⟩ (.string ⟨#[]⟩) (.int .i64 0) (.int .i64 0) (.int .i64 0) (.string ⟨#[]⟩)
                  rw [← HWZ.out] at this
                  exact this
              · have g5 : decide (today < t.day) = false := decide_eq_false hdy
                have HDY := hid' hdy
                clear hdy
                by_cases hly : t.day ≤ Orc.lastDay q.kn.stamps
                · have g6 : decide (t.day ≤ Orc.lastDay q.kn.stamps) = true := decide_eq_true hly
                  have HC := hid' (HCD.out (.inr hly))
                  clear hly
                  go_wp2_with fail
                  refine (refuse_any _ _ _).mono ?_
                  rintro e wz ⟨rfl, hwz⟩
                  have HTZ := hid' (show TkAt w rb xb t wz by rw [hwz]; exact HT6.out.below ((Below.refl _ _).alloc (Nat.le_refl _) _))
                  have HWZ := hid' hwz
                  obtain ⟨r0, r1, r2, r3, r4, f0, f1, f2, f3, f4⟩ := HTZ.out.cells
                  clear hwz
                  go_wp2_with fail
                  refine bodyPost_ret (v := .tuple #[.agg #[.string ⟨#[]⟩, .int .i64 0, .int .i64 0, .int .i64 0, .string ⟨#[]⟩], .iface 101 (.pointer (some ⟨(w6).heap.size, 0, none⟩))]) ?_ rfl ?_
                  · simp [results, Tryz.results41, go_sem, r0, r1, r2, r3, r4]
                  · have := take_no (base := base) (tb := tb) (mb := mb) HT6.out HD.out HC.out (by decide) ⟨#[97, 110, 111, 116, 104, 101, 114, 32, 100, 97, 121]⟩ (.string ⟨#[]⟩) (.int .i64 0) (.int .i64 0) (.int .i64 0) (.string ⟨#[]⟩)
                    rw [← HWZ.out] at this
                    exact this
                · have g6 : decide (t.day ≤ Orc.lastDay q.kn.stamps) = false := decide_eq_false hly
                  have HCF := hid' (show Orc.tkCode (Q.map (·.kn)) t today = if q.kn.stamps.length = 4096 then 215 else 0 by rw [code_is HF.out, if_neg (by rw [HSE.out]; simp), if_neg HSQ.out, if_neg (by have := HDY.out; omega)])
                  clear hly
                  rw [HSV.out] at k2
                  replace k2 : w6.cell? ⟨q.kb, 2, none⟩ = some (.slice sp n sc) := by rw [k2, ← HN.out]
                  by_cases hz : n = 4096
                  · have g7 : ((n : Int) == 4096) = true := by rw [hz]; rfl
                    have HC := hid' (show Orc.tkCode (Q.map (·.kn)) t today = 215 by rw [HCF.out, if_pos (by rw [← HN.out]; exact hz)])
                    clear hz
                    go_wp2_with fail
                    refine (refuse_any _ _ _).mono ?_
                    rintro e wz ⟨rfl, hwz⟩
                    have HTZ := hid' (show TkAt w rb xb t wz by rw [hwz]; exact HT6.out.below ((Below.refl _ _).alloc (Nat.le_refl _) _))
                    have HWZ := hid' hwz
                    obtain ⟨r0, r1, r2, r3, r4, f0, f1, f2, f3, f4⟩ := HTZ.out.cells
                    clear hwz
                    go_wp2_with fail
                    refine bodyPost_ret (v := .tuple #[.agg #[.string ⟨#[]⟩, .int .i64 0, .int .i64 0, .int .i64 0, .string ⟨#[]⟩], .iface 101 (.pointer (some ⟨(w6).heap.size, 0, none⟩))]) ?_ rfl ?_
                    · simp [results, Tryz.results41, go_sem, r0, r1, r2, r3, r4]
                    · have := take_no (base := base) (tb := tb) (mb := mb) HT6.out HD.out HC.out (by decide) ⟨#[116, 111, 111, 32, 109, 97, 110, 121, 32, 115, 116, 97, 109, 112, 115]⟩ (.string ⟨#[]⟩) (.int .i64 0) (.int .i64 0) (.int .i64 0) (.string ⟨#[]⟩)
                      rw [← HWZ.out] at this
                      exact this
                  · have g7 : ((n : Int) == 4096) = false := by rw [beq_eq_false_iff_ne]; omega
                    have HC := hid' (show Orc.tkCode (Q.map (·.kn)) t today = 0 by rw [HCF.out, if_neg (by rw [← HN.out]; exact hz)])
                    have HQL := hid' (show q.kn.stamps.length + 1 ≤ 100000 by have := HN.out; omega)
                    clear hz
                    have kf1 := kf 1
                    go_upto_region 20 with (fail)
                    have hA0 := stamp_ahead HH.out HT6.out HF.out (.int .i64 t.seq)
                    have HA0 := hid' hA0
                    obtain ⟨_, _, _, k2', x1', x2', hsz⟩ := hA0
                    rw [HSV.out] at k2'
                    replace k2 : (w6.setCell ⟨q.kb, 1, none⟩ (.int .i64 t.seq)).cell? ⟨q.kb, 2, none⟩ = some (.slice sp n sc) := by rw [k2', ← HN.out]
                    have HB7 := hid' (show base ≤ ((w6.setCell ⟨q.kb, 1, none⟩ (.int .i64 t.seq)).alloc (.cells #[.int .i64 t.day, .int .i64 t.n] 54)).drew.heap.size from Nat.le_trans HBS.out (Nat.le_trans HT6.out.bel.size (by rw [hsz]; simp)))
                    have HS7 := hid' hsz
                    have HSW := hid' (show q.sv = .slice sp n sc by rw [HSV.out, ← HN.out])
                    clear k0 k1 x0 x1 x2 x3 x4 k2' hsz kf kf1
                    obtain ⟨W7, hW7⟩ : ∃ W7, W7 = w6.setCell ⟨q.kb, 1, none⟩ (.int .i64 t.seq) := ⟨_, rfl⟩
                    rw [← hW7] at HA0 HB7 HS7 k2 x1' x2' ⊢
                    rw [HSW.out] at HA0
                    have HW7 := hid' hW7
                    clear hW7
                    have k2a := fun o => alloc_cell k2 o
                    have x1a := fun o => alloc_cell x1' o
                    have x2a := fun o => alloc_cell x2' o
                    have k2 := drew_cell k2
                    have x1' := drew_cell x1'
                    have x2' := drew_cell x2'
                    go_region_law ((refine step_stamp rfl _ _ (by rfl) base _ q.kn.stamps (by rfl) (by exact HA0.out.1) W7.heap.size (by rfl) (.int .i64 t.day) (.int .i64 t.n) (by exact HA0.out.2.2.1) rfl rfl HQL.out (by exact HB7.out) ?_; intro g5b c5 w8 h5 h6 h7; have hA := take_yes' (cap := c5) HH.out HT6.out HD.out HF.out HC.out h5 (by rw [← HW7.out, HSW.out]; exact grown_trans' HA0.out.2.1 h6) (by rw [HSW.out]; exact h7.imp id (fun e => by rw [e, HS7.out]; simp)) (.string t.feed) (.int .i64 t.day) (.int .i64 t.n) (.int .i64 t.seq) (.string t.tag); have hA1 := hA.1.1; have hA2 := hA.1.2))
                    all_goals
                      have HTK := hid' hA.2
                      clear hA1 hA2 hA h5 h6 h7
                      obtain ⟨rc, rf⟩ := block_cells HTK.out.1.1
                      have r0 := rc 0 _ rfl
                      have r1 := rc 1 _ rfl
                      have r2 := rc 2 _ rfl
                      have r3 := rc 3 _ rfl
                      have r4 := rc 4 _ rfl
                      have f0 := rf 0
                      have f1 := rf 1
                      have f2 := rf 2
                      have f3 := rf 3
                      have f4 := rf 4
                      obtain ⟨x0, x1, x2, x3, x4, _⟩ := HTK.out.1.2.cells
                      clear rc rf
                      go_wp2_with fail
                      refine bodyPost_ret (v := .tuple #[.agg #[.string t.feed, .int .i64 t.day, .int .i64 t.n, .int .i64 t.seq, .string t.tag], .nilIface]) ?_ rfl ?_
                      · simp [results, Tryz.results41, go_sem, r0, r1, r2, r3, r4]
                      · exact HTK.out.2
          · rw [decide_eq_false hst]
            have HC := hid' (show Orc.tkCode (Q.map (·.kn)) t today = 212 by rw [code_is HF.out, if_pos (by rw [← hsg.out]; exact hst)])
            clear hst
            go_wp2_with fail
            refine (refuse_any _ _ _).mono ?_
            rintro e wz ⟨rfl, hwz⟩
            have HTZ := hid' (show TkAt w rb xb t wz by rw [hwz]; exact HT5.out.below ((Below.refl _ _).alloc (Nat.le_refl _) _))
            have HWZ := hid' hwz
            obtain ⟨r0, r1, r2, r3, r4, f0, f1, f2, f3, f4⟩ := HTZ.out.cells
            clear hwz
            go_wp2_with fail
            refine bodyPost_ret (v := .tuple #[.agg #[.string ⟨#[]⟩, .int .i64 0, .int .i64 0, .int .i64 0, .string ⟨#[]⟩], .iface 101 (.pointer (some ⟨(w5).heap.size, 0, none⟩))]) ?_ rfl ?_
            · simp [results, Tryz.results41, go_sem, r0, r1, r2, r3, r4]
            · have := take_no (base := base) (tb := tb) (mb := mb) HT5.out HD.out HC.out (by decide) ⟨#[97, 110, 111, 116, 104, 101, 114, 32, 116, 97, 103]⟩ (.string ⟨#[]⟩) (.int .i64 0) (.int .i64 0) (.int .i64 0) (.string ⟨#[]⟩)
              rw [← HWZ.out] at this
              exact this
end Go.Proofs.YtmddaomchhigbaaGreatDoor
