/- Proved: lemmas and contracts of the functions that the law reaches, part 24 of 31: OptRow. Conditions: as each states. -/
import Derived.Deep.AppendLies
import Derived.Test.YtanlmbbalamgkaaGreatDoorGfm6
import Derived.Test.YtanlmbbalamgkaaGreatDoorGfm22
namespace Go.Proofs.YtanlmbbalamgkaaGreatDoor
set_option linter.unusedVariables false
set_option linter.unusedSimpArgs false
section
open Go.RowKit
set_option maxRecDepth 100000
abbrev Q4 : Type := Value × Value × Value × Value
def Q4.val (q : Q4) : Value := .agg #[q.1, q.2.1, q.2.2.1, q.2.2.2]
def Q4.cells (q : Q4) : List Value := [q.1, q.2.1, q.2.2.1, q.2.2.2]
theorem info_core : (Tryz.prog.info? 24).map (fun i => (i.zero, i.size, i.bytes)) = some (some (.agg #[.int .i64 0, .int .i64 0, .string ⟨#[]⟩, .slice none 0 0]), 4, 56) := by kernel_rfl
def KidsOwn (ok : Nat → Prop) (base : Nat) (us : List Co.T) (kv : Value) (W : World) : Prop := ∃ qs : List Q4, qs.length = us.length ∧ W.ownsRow base 24 4 kv us.length (qs.flatMap Q4.cells) ∧
 ∀ (j : Nat) u, us[j]? = some u → ∃ q : Q4, qs[j]? = some q ∧ CoreIn (fun b => (ok b ∨ base ≤ b) ∧ kv.ownBlock ≠ some b) W u q.val
theorem KidsOwn.nil (ok : Nat → Prop) (base : Nat) (W : World) : KidsOwn ok base [] (.slice none 0 0) W :=
 ⟨[], rfl, ⟨rfl, .inl ⟨rfl, rfl⟩⟩, fun j u h => by simp at h⟩
theorem KidsOwn.keep {ok : Nat → Prop} {base : Nat} {us : List Co.T} {kv : Value} {W W' : World} (h : KidsOwn ok base us kv W) (hk : ∀ b, (ok b ∨ base ≤ b) → b < W.heap.size → W'.heap[b]? = W.heap[b]?) : KidsOwn ok base us kv W' := by
 obtain ⟨qs, h1, h2, h3⟩ := h
 refine ⟨qs, h1, ⟨h2.1, h2.2.imp id fun ⟨g, cap, cur, e1, e2, e3, e4⟩ => ⟨g, cap, cur, e1, e2, (hk g (.inr e2) (zzc e3)).trans e3, e4⟩⟩, fun j u hj => ?_⟩
 obtain ⟨q, h4, h5⟩ := h3 j u hj
 exact ⟨q, h4, h5.keep fun b hb hl => ⟨hb, hk b hb.1 hl⟩⟩
theorem KidsOwn.push {ok : Nat → Prop} {base : Nat} {us : List Co.T} {kv : Value} {W W' : World} {qs : List Q4} {u : Co.T} {q : Q4} {g cap : Nat} (hlen : qs.length = us.length)
   (hold : ∀ (j : Nat) u, us[j]? = some u → ∃ q : Q4, qs[j]? = some q ∧ CoreIn (fun b => (ok b ∨ base ≤ b) ∧ kv.ownBlock ≠ some b) W u q.val) (hu : CoreIn (fun b => (ok b ∨ base ≤ b) ∧ kv.ownBlock ≠ some b) W u q.val)
   (hown : W'.ownsRow base 24 4 (.slice (some ⟨g, 0, none⟩) (us.length + 1) cap) (us.length + 1) (qs.flatMap Q4.cells ++ q.cells)) (hg : W.grownBy W' kv.ownBlock) (hat : kv.ownBlock = some g ∨ g = W.heap.size) :
   KidsOwn ok base (us ++ [u]) (.slice (some ⟨g, 0, none⟩) (us.length + 1) cap) W' := by
 have key : ∀ b, ((ok b ∨ base ≤ b) ∧ kv.ownBlock ≠ some b) → b < W.heap.size → ((ok b ∨ base ≤ b) ∧ (Value.slice (some ⟨g, 0, none⟩) (us.length + 1) cap).ownBlock ≠ some b) ∧ W'.heap[b]? = W.heap[b]? := by
   intro b hb hl
   refine ⟨⟨hb.1, fun e => ?_⟩, hg.block b hl (fun e => hb.2 e.symm)⟩
   have e' : g = b := Option.some.inj e
   rcases hat with h | h
   · exact hb.2 (h.trans (by rw [e']))
   · omega
 refine ⟨qs ++ [q], by simp [hlen], ?_, fun j x hj => ?_⟩
 · rw [List.length_append, List.flatMap_append]
   simpa using hown
 · by_cases hjl : j < us.length
   · rw [List.getElem?_append_left hjl] at hj
     obtain ⟨q', h4, h5⟩ := hold j x hj
     exact ⟨q', by rw [List.getElem?_append_left (by omega)]; exact h4, h5.keep key⟩
   · have hj' := (List.getElem?_eq_some_iff.1 hj).1
     simp only [List.length_append, List.length_cons, List.length_nil] at hj'
     obtain rfl : j = us.length := by omega
     have : u = x := by simpa using hj
     subst this
     exact ⟨q, by rw [← hlen]; simp, hu.keep key⟩
theorem KidsOwn.value {ok : Nat → Prop} {base : Nat} {us : List Co.T} {kv : Value} {W : World} (h : KidsOwn ok base us kv W) {op n : Int} {s : ByteArray} (ho : I64 op) (hn : I64 n) (hs : s.size ≤ 2000000) :
   CoreIn (fun b => ok b ∨ base ≤ b) W (.mk op n s us) (.agg #[.int .i64 op, .int .i64 n, .string s, kv]) := by
 obtain ⟨qs, h1, h2, h3⟩ := h
 rcases h2.2 with ⟨rfl, e⟩ | ⟨g, cap, cur, rfl, hb, hg, hnc, hcm, -⟩
 · obtain rfl : us = [] := List.length_eq_zero_iff.1 e
   exact CoreIn.close (ks := []) ⟨Nat.le_refl _, by unfold maxLen; omega⟩ ho hn hs (fun i k e => by simp at e)
 · refine CoreIn.close ⟨hnc, hcm⟩ ho hn hs (fun j u hj => ?_)
   obtain ⟨q, h4, h5⟩ := h3 j u hj
   have hc : ∀ r v, q.cells[r]? = some v → r < 4 → W.cell? ⟨g, 0 + j * 4 + r, none⟩ = some v := by
     intro r v hr hr4
     have := h2.cells (g := g) rfl (j * 4 + r) v (by rw [Rw.cells_at Q4.cells 4 (fun _ => rfl) qs j q r h4 hr4]; exact hr)
     rw [Rw.add_gen] at this
     simpa using this
   exact ⟨q.val, ⟨g, 0, _, _, _, _, rfl, .inr hb, rfl, hc 0 _ rfl (by omega), hc 1 _ rfl (by omega), hc 2 _ rfl (by omega), hc 3 _ rfl (by omega)⟩, h5.wk fun b hb => hb.1⟩
theorem CoreIn.lt {ok : Nat → Prop} {W : World} {t : Co.T} {v : Value} (h : CoreIn ok W t v) : CoreIn (fun b => ok b ∧ b < W.heap.size) W t v := h.keep fun b hb hl => ⟨⟨hb, hl⟩, rfl⟩
theorem least_ex {P : Nat → Prop} (h : ∃ n, P n) : ∃ m, P m ∧ ∀ k, P k → m ≤ k := by
 obtain ⟨n, hn⟩ := h
 induction n using Nat.strongRecOn with
 | _ n ih =>
   by_cases hs : ∃ k, k < n ∧ P k
   · obtain ⟨k, hk, hp⟩ := hs
     exact ih k hk hp
   · refine ⟨n, hn, fun k hk => ?_⟩
     rcases Nat.lt_or_ge k n with h | h
     · exact absurd ⟨k, h, hk⟩ hs
     · exact h
open Classical in
noncomputable def least (P : Nat → Prop) : Nat := if h : ∃ n, P n then Classical.choose (least_ex h) else 0
theorem least_is {P : Nat → Prop} {n : Nat} (h : P n) : P (least P) := by
 unfold least
 rw [dif_pos ⟨n, h⟩]
 exact (Classical.choose_spec (least_ex ⟨n, h⟩)).1
theorem least_le {P : Nat → Prop} {n : Nat} (h : P n) : least P ≤ n := by
 unfold least
 rw [dif_pos ⟨n, h⟩]
 exact (Classical.choose_spec (least_ex ⟨n, h⟩)).2 n h
end
end Go.Proofs.YtanlmbbalamgkaaGreatDoor
