/- Proved: a range over a function whose iterator tells the body, at each round, what lies in memory of what it hands out; the body never leaves the loop. -/
import Derived.RangeFuncNested
import Derived.RangeFuncBound
import Derived.RangeFuncCalls
import Derived.RangeFuncLeaves
namespace Go.Proofs.YtmmbhmlhenpgbaaDoor
open Go.RowKit
set_option linter.unusedVariables false
set_option linter.unusedSimpArgs false
section
variable {F : Fence} {n : Nat} {P : Program}
/-- An iterator's word: at each round 'R pre x W' holds of what is handed out; each round goes on. -/
def SeqTells {α : Type} (F : Fence) (n : Nat) (P : Program) (g : Nat) (lb : Array Value) (encs : α → Array Value) (R : List α → α → World → Prop) (Kp : World → World → Prop) (S : List α → Prop) (N : Nat) (w : World) : Prop :=
  ∀ (l : Nat) (J : List α → World → Prop) (W : World), Below w.heap.size w W → AbidesFrom W.heap.size J →
    (∀ pre x V, J pre V → R pre x V → pre.length < N → YieldAt F (n - 1) P l (encs x) V fun e V' => e = .returned (.bool true) ∧ J (pre ++ [x]) V' ∧ Kp V V') →
    J [] W → CallsIn F n P g (#[.func (.yield l) #[] #[]] ++ lb) W fun e V' => (∃ v, e = .returned v) ∧ ∃ xs, S xs ∧ J xs V'
/-- A body that goes on. -/
def goesOn {α : Type} (B : Nat) (Kp : World → World → Prop) (I : List α → World → Prop) (xs : List α) (W : World) : Exit → Act → World → Prop
  | .normal, _, W' => KeepsFrom B W W' ∧ Kp W W' ∧ I xs W'
  | _, _, _ => False
/-- The loop's record and the block for deferred calls, as they lie between two rounds. -/
structure Between {α : Type} (I : List α → World → Prop) (rec : LoopState → Loop) (st : LoopState) (l D : Nat) (pre : List α) (W : World) : Prop where
  inv : I pre W
  loop : W.heap[l]? = some (.loop (rec st))
  defd : W.heap[D]? = some (.deferred (some []))
theorem Between.abides {α : Type} {I : List α → World → Prop} {rec : LoopState → Loop} {st : LoopState} {l D B : Nat} (hI : OwnFrom B I) {C : Nat} (hBC : B ≤ C) : AbidesFrom C (Between I rec st l D) := by
  intro s X Y row h hg hr
  have hr2 : ∀ r, row = some r → ∃ o : Obj, X.heap[r]? = some o ∧ o.isWalk = true := fun r e => (hr r e).2
  exact ⟨hI s X Y row h.inv hg (fun r e => by obtain ⟨h1, o, ho, hw⟩ := hr r e; exact ⟨by omega, o, ho, Obj.not_cells_of_walk hw⟩), (grownBy_keeps hg hr2 h.loop rfl).trans h.loop, (grownBy_keeps hg hr2 h.defd rfl).trans h.defd⟩
theorem Between.turn {α : Type} {I : List α → World → Prop} {rec : LoopState → Loop} {st : LoopState} {l D B : Nat} {pre : List α} {W : World} (h : Between I rec st l D pre W) (hI : OwnFrom B I) (hl : B ≤ l) (hD : l ≠ D) (st' : LoopState) : Between I rec st' l D pre (W.putObj l (.loop (rec st'))) :=
  ⟨hI.putObj _ h.inv hl h.loop rfl, World.putObj_heap_same (Array.getElem?_eq_some_iff.1 h.loop).1, (World.putObj_heap_other (fun e => hD e.symm)).trans h.defd⟩
theorem wpIn_tells {α : Type} {g : Operand} {ps : Array Tmp} {assign body : Code} {Q : Exit → Act → World → Prop} {a : Act} {w : World}
    (hro : F.round = none) (h1 : 1 ≤ n) {gf : Nat} {lb : Array Value} (hg : a.eval g = .func (.func gf) #[] lb) (hFg : F.fn gf) (eg : ∀ args w, (callFunc gf args).run P w = .ok (.enter gf args) w)
    {encs : α → Array Value} {R : List α → α → World → Prop} {Kp : World → World → Prop} {S : List α → Prop} {N : Nat} (hseq : SeqTells F (n - 1) P gf lb encs R Kp S N w)
    (hKt : ∀ {A B C : World}, Kp A B → Kp B C → Kp A C) (hKb : ∀ (W : World) (l : Nat) (o o' : Obj), w.heap.size ≤ l → W.heap[l]? = some o → o.isCells = false → o.isWalk = false → Kp W (W.putObj l o')) (hps : ∀ x, (encs x).size = ps.size)
    (I : List α → World → Prop) (hI : OwnFrom w.heap.size I) (h0 : I [] w) (Ax : List α → α → Act → World → Prop) (hAx : ∀ pre x a', OwnFrom w.heap.size (fun (_ : Unit) W => Ax pre x a' W))
    (hassign : ∀ (l : Nat) (pre : List α) (x : α) (W : World) (K : Act → World → Prop), I pre W → R pre x W → (∀ a' W', KeepsFrom w.heap.size W W' → Kp W W' → I pre W' → Ax pre x a' W' → K a' W') →
      assign.wpIn (F.inRound l) (n - 1 - 1) P (Exit.then K (fun _ _ _ => False)) { tmps := (ps.zip (encs x)).foldl (fun t (p, v) => t.setIfInBounds p v) a.tmps, defers := [] } W)
    (hbody : ∀ (l : Nat) (pre : List α) (x : α) (a' : Act) (W : World), I pre W → Ax pre x a' W → pre.length < N → body.wpIn (F.inRound l) (n - 1 - 1) P (goesOn w.heap.size Kp I (pre ++ [x]) W) a' W)
    (hdone : ∀ (D : Nat) (xs : List α) (W : World), w.heap.size ≤ D → S xs → I xs W → W.heap[D]? = some (.deferred (some [])) → Q .normal { a with defers := { target := .collected D, args := #[] } :: a.defers } W) :
    (Code.rangeFunc g ps assign body).wpIn F n P Q a w := by
  refine wpIn_rangeFunc fun fn hfn => ?_
  rw [hro]
  have hent := run_enterLoop_outer (P := P) (w := w) fn a.tmps ps assign body
  generalize hrec : (fun st : LoopState => ({ state := st, pending := none, fn, tmps := a.tmps, params := ps, assign, body, defers := w.heap.size } : Loop)) = rec
  have r0 : rec .ready = { state := .ready, pending := none, fn, tmps := a.tmps, params := ps, assign, body, defers := w.heap.size } := by rw [← hrec]
  rw [← r0] at hent
  have hst : ∀ st, (rec st).state = st ∧ (rec st).pending = none ∧ (rec st).params = ps := fun st => by rw [← hrec]; exact ⟨rfl, rfl, rfl⟩
  have hturn : ∀ st st', ({ rec st with state := st' } : Loop) = rec st' := fun st st' => by rw [← hrec]
  have hend : ∀ st st', ({ rec st with state := st', pending := none } : Loop) = rec st' := fun st st' => by rw [← hrec]
  generalize hV : (w.alloc (.deferred (some []))).alloc (.loop (rec .ready)) = V at hent
  have hsz : V.heap.size = w.heap.size + 1 + 1 := by rw [← hV]; simp
  have hbV : Below w.heap.size w V := by rw [← hV]; exact ((Below.refl _ w).alloc (Nat.le_refl _) _).alloc (by simp) _
  have hB0 : Between I rec .ready (w.heap.size + 1) w.heap.size [] V := by
    rw [← hV]
    refine ⟨hI.alloc _ (hI.alloc _ h0), ?_, (Below.heap_alloc _ _ _ (by simp)).trans (World.alloc_heap_new w _)⟩
    have := World.alloc_heap_new (w.alloc (.deferred (some []))) (.loop (rec .ready))
    rwa [World.size_alloc] at this
  refine ⟨w.heap.size + 1, [{ target := .collected w.heap.size, args := #[] }], V, { target := .fn (.func gf) lb, args := #[.func (.yield (w.heap.size + 1)) #[] #[]] }, V, gf, #[.func (.yield (w.heap.size + 1)) #[] #[]] ++ lb, V, hent, ?_, ?_, ?_, fun _ => h1, ?_⟩
  · simp only [resolve, hg]; simp [go_sem]
  · intro f' hf'; simp [Target.leads] at hf'; subst hf'; exact hFg
  · simp [invoke, go_sem, eg]
  refine (hseq (w.heap.size + 1) (Between I rec .ready (w.heap.size + 1) w.heap.size) V hbV (Between.abides hI (by omega)) ?_ hB0).mono ?_
  · intro pre x X hX hR hlen
    have hlX := (Array.getElem?_eq_some_iff.1 hX.loop).1
    have hy := run_yield (P := P) (args := encs x) hX.loop (by rw [(hst _).2.2]; exact hps x)
    rw [r0] at hy
    refine ⟨fn, _, assign, body, hy, roundIn_of_wpIn hfn (hassign _ pre x X _ hX.inv hR ?_)⟩
    intro a' X1 hk1 hp1 hi1 hax
    have hX1 : Between I rec .ready (w.heap.size + 1) w.heap.size pre X1 := ⟨hi1, hk1.same _ _ (by omega) hX.loop rfl, hk1.same _ _ (Nat.le_refl _) hX.defd rfl⟩
    have hbeg := run_beginRound (P := P) hX1.loop (hst _).1
    rw [hturn] at hbeg
    refine ⟨_, hbeg, ?_⟩
    have hX2 := hX1.turn hI (by omega) (by omega) .busy
    have hp2 : Kp X1 (X1.putObj (w.heap.size + 1) (.loop (rec .busy))) := hKb _ _ _ _ (by omega) hX1.loop rfl rfl
    have hax2 := (hAx pre x a').putObj (s := ()) (.loop (rec .busy)) hax (by omega) hX1.loop rfl
    refine wpIn_mono (hbody _ pre x a' _ hX2.inv hax2 hlen) ?_
    intro ex a3 X3 hp
    cases ex with
    | normal =>
      obtain ⟨hk3, hp3, hi3⟩ := hp
      have hX3 : Between I rec .busy (w.heap.size + 1) w.heap.size (pre ++ [x]) X3 := ⟨hi3, hk3.same _ _ (by omega) hX2.loop rfl, hk3.same _ _ (Nat.le_refl _) hX2.defd rfl⟩
      have he := run_endRound (P := P) none hX3.loop
      simp only [Option.isNone_none, if_true] at he
      rw [hend] at he
      exact ⟨_, _, he, rfl, hX3.turn hI (by omega) (by omega) .ready, hKt hp1 (hKt (hKt hp2 hp3) (hKb _ _ _ _ (by omega) hX3.loop rfl rfl))⟩
    | ret => exact hp.elim
    | exit id => exact hp.elim
    | goto t => exact hp.elim
    | panic ch => exact hp.elim
    | outgrown => exact hp.elim
  · rintro e X ⟨⟨v, rfl⟩, xs, hS, hX⟩
    have he := run_endLoop (P := P) hX.loop (by rw [(hst _).1]; simp)
    rw [(hst _).2.1, hend] at he
    have hX2 := hX.turn hI (by omega) (by omega) .exhausted
    exact ⟨none, _, he, hdone _ xs _ (Nat.le_refl _) hS hX2.inv hX2.defd⟩
end
end Go.Proofs.YtmmbhmlhenpgbaaDoor
