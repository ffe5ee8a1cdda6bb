/- Proved: the ledger's map of accounts: its keys, its clone. -/
import Derived.Test.YtmmbhmlhenpgbaaDoorLedMem
import Derived.WideKeyArgs2
import Derived.DeepKeys4
import Derived.WideKeyEntry
import Derived.Maps.Keyed
import Derived.Maps.OwnOps
import Derived.Shelf.SlMaps.Clone
namespace Go.Proofs.YtmmbhmlhenpgbaaDoor
open Go.RowKit
open Led
set_option linter.unusedVariables false
set_option linter.unusedSimpArgs false
theorem laidOutX : laidOutB Tryd.prog = true := by kernel_rfl
theorem rowAcc : (75 : TypeId) < Tryd.prog.types.size := of_decide_eq_true (by kernel_rfl)
theorem wideAcc : (match Tryd.prog.underlying 75 with | some (.array _ _) | some (.struct _) => true | _ => false) = true := by kernel_rfl
set_option maxRecDepth 100000 in
theorem lawAcc : WideMaps.KeyLaw Tryd.prog 75 := deep_law_laid laidOutX (m := 3) (by omega) rowAcc (by kernel_rfl) wideAcc
theorem keysAcc : Maps.Keyed Tryd.prog 75 := Maps.Keyed.of_law lawAcc
/-- An account as a key. -/
noncomputable def accK (p c : ByteArray) : Lit := (keyOf Tryd.prog 75 (.agg #[.string p, .string c])).getD (.string [])
theorem keyLits_string (d : Nat) (s : ByteArray) (hs : s.size ≤ maxLen) : Tryd.prog.keyLits (d + 1) 9 [.string s] = some [.string s.data.toList] := by
  unfold Program.keyLits
  rw [Tryd.underlying9]
  simp only []
  rw [if_pos hs]
theorem cellsAcc : Tryd.prog.cellsOf 75 = 2 := by kernel_rfl
theorem cellsStr : Tryd.prog.cellsOf 9 = 1 := by kernel_rfl
theorem typesPos : 0 < Tryd.prog.types.size := of_decide_eq_true (by kernel_rfl)
theorem keyLits_acc (d : Nat) (p c : ByteArray) (hp : p.size ≤ maxLen) (hc : c.size ≤ maxLen) (hd : 0 < d) : Tryd.prog.keyLits (d + 1) 75 (Value.agg #[.string p, .string c]).cells.toList = some [.string p.data.toList, .string c.data.toList] := by
  obtain ⟨d, rfl⟩ : ∃ e, d = e + 1 := ⟨d - 1, by omega⟩
  have e : (Value.agg #[.string p, .string c]).cells.toList = [.string p, .string c] := rfl
  rw [e]
  unfold Program.keyLits
  rw [Tryd.underlying75]
  simp only [cellsAcc, cellsStr]
  rw [if_pos (by exact ⟨rfl, by decide +kernel⟩)]
  simp only [List.mapM_cons, List.mapM_nil, List.drop_zero, List.take_succ_cons, List.take_zero, List.drop_succ_cons, keyLits_string _ _ hp, keyLits_string _ _ hc]
  simp [cellsStr, keyLits_string _ _ hp, keyLits_string _ _ hc]
set_option maxRecDepth 100000 in
theorem key_acc (p c : ByteArray) (hp : p.size ≤ maxLen) (hc : c.size ≤ maxLen) : keyOf Tryd.prog 75 (.agg #[.string p, .string c]) = some (accK p c) := by
  unfold accK
  have h1 : Tryd.prog.keyType 75 = true := by kernel_rfl
  have h2 : Value.formed Tryd.prog 75 (.agg #[.string p, .string c]) = true := by
    simp [Value.formed, Tryd.underlying75, cellsAcc]
  have h3 : Tryd.prog.keyLits (Tryd.prog.types.size + 1) 75 (Value.agg #[.string p, .string c]).cells.toList = some [.string p.data.toList, .string c.data.toList] := keyLits_acc _ p c hp hc typesPos
  simp only [keyOf, Tryd.underlying75]
  rw [if_pos (by rw [h1, h2]; rfl), h3]
  rfl
set_option maxRecDepth 100000 in
theorem accK_inj {p c p' c' : ByteArray} (hp : p.size ≤ maxLen) (hc : c.size ≤ maxLen) (hp' : p'.size ≤ maxLen) (hc' : c'.size ≤ maxLen) (h : accK p c = accK p' c') : p = p' ∧ c = c' := by
  have h1 := key_acc p c hp hc
  have h2 := key_acc p' c' hp' hc'
  rw [← h] at h2
  have := keysAcc.inj h1 h2
  simp at this
  exact this
set_option maxRecDepth 100000 in
theorem accK_is (p c : ByteArray) (hp : p.size ≤ maxLen) (hc : c.size ≤ maxLen) : WideAt.IsKeyLit (accK p c) := keysAcc.key (key_acc p c hp hc)
def accM (W : World) (b n : Nat) (D : DataW Unit) : Prop := W.ownsMap Tryd.prog 75 (plainElem Tryd.prog 2) b n D
set_option maxRecDepth 100000 in
set_option maxHeartbeats 2000000 in
theorem cloneMap_any (b n : Nat) (D : DataW Unit) (w : World) (hown : accM w b n D) :
    Calls Tryd.prog 40 #[.map (some b)] w fun e w' => e = .returned (.map (some w.heap.size)) ∧ accM w' w.heap.size n D ∧ accM w' b n D ∧ Below w.heap.size w w' := by
  have hlt := hown.lt
  obtain ⟨es, clock, hb, F, hs, hD⟩ := hown
  have hq := fun w => run_eql_map_nil_sl (P := Tryd.prog) w 69 _ _ (some b) Tryd.underlying69
  have hfin : ∀ w' : World, w' = w.alloc (.map es clock) → accM w' w.heap.size n D ∧ accM w' b n D ∧ Below w.heap.size w w' := by
    rintro w' rfl
    exact ⟨⟨es, clock, (MapKept.heap_alloc w _).1, F, hs, hD⟩, ⟨es, clock, (Below.heap_alloc _ _ b hlt).trans hb, F, hs, hD⟩, (Below.refl _ w).alloc (Nat.le_refl _) _⟩
  have HF := hid' hfin
  have HBK := hid' hb
  clear hfin hb F hs hD
  go_enter Tryd.func40, Tryd.ntmps40
  go_wp2_with fail
  rw [run_callFunc_extern Tryd.func55 (by kernel_rfl) (by kernel_rfl) (by kernel_rfl) (e := Extern.MapsClone.clone) (by kernel_rfl), run_maps_clone_sl w 69 HBK.out]
  simp only [Result.andThen]
  rw [Oper.upon_value]
  go_wp2_with fail
  rw [run_typeAssert_map_sl _ 69 20 _ _ _ Tryd.underlying69]
  simp only [Result.andThen]
  rw [Oper.upon_value]
  go_wp2_with fail
  go_ret
  exact ⟨rfl, HF.out _ rfl⟩
open Go.ChangeMaps (setBlock)
theorem setBlock_twice {w : World} {b : Nat} {x y : Obj} : setBlock (setBlock w b x) b y = setBlock w b y := by
  unfold setBlock
  congr 1
  simp
/-- An entry is laid as if it were stored as it stands. -/
theorem entry_same {H : Type} {P : Program} {w : World} {t k e : TypeId} {R : Value → Option (DataW H × List MemPlace)} {b : Nat} {es : Array MapEntry} {clock : Nat} (K : WideMaps.KeyLaw P k) (ht : P.underlying t = some (.map k e)) {z : Value} (hz : ∀ u : World, (zeroValue e).run P u = .ok z u) (hb : w.heap[b]? = some (.map es clock)) (F : WideElems.Fit P k R es clock)
    {key : Value} {kl : Lit} (hkey : keyOf P k key = some kl) :
    ∃ (v0 : Value) (st : Nat) (w2 : World), (Instr.mapEntry t (.map (some b)) key).run P w = .ok (.tuple #[v0, goInt st]) w2 ∧ (Instr.mapUpdate t (.map (some b)) key v0).run P w = .ok () w2 ∧ (Instr.lookup t (.map (some b)) key false).run P w = .ok v0 w := by
  rcases K.find w hkey es.toList F.keys with ⟨h1, h2⟩ | ⟨j, e0, h1, h2, h3⟩
  · refine ⟨z, clock, setBlock w b (.map (es.push ⟨key, z, clock⟩) (clock + 1)), by simp [Instr.mapEntry, run_underlying ht, MapKept.run_getObj_map hb, K.check w false hkey, h1, hz, MapKept.run_setObj_map _ hb, Result.andThen, setBlock], ?_, ?_⟩
    · simp [Instr.mapUpdate, run_underlying ht, MapKept.run_getObj_map hb, K.check w false hkey, h1, MapKept.run_setObj_map _ hb, Result.andThen, setBlock]
    · simp [Instr.lookup, run_underlying ht, MapKept.run_getObj_map hb, K.check w es.isEmpty hkey, h1, hz, Result.andThen]
  · have hj : es[j]? = some e0 := by simpa using h2
    have hsame : es.modify j (fun e => { e with key := key }) = es.modify j (fun e => { e with key := key, val := e0.val }) := by
      apply Array.ext (by simp)
      intro i h5 h6
      rw [Array.getElem_modify, Array.getElem_modify]
      by_cases hij : j = i
      · subst hij
        have h7 : es[j]'(by simpa using h5) = e0 := (Array.getElem?_eq_some_iff.1 hj).2
        simp [h7]
      · simp [hij]
    refine ⟨e0.val, e0.born, setBlock w b (.map (es.modify j (fun e => { e with key := key })) clock), by simp [Instr.mapEntry, run_underlying ht, MapKept.run_getObj_map hb, K.check w false hkey, h1, hj, h3, K.stays w hkey, MapKept.run_setObj_map _ hb, Result.andThen, setBlock], ?_, ?_⟩
    · simp [Instr.mapUpdate, run_underlying ht, MapKept.run_getObj_map hb, K.check w false hkey, h1, hj, h3, K.stays w hkey, MapKept.run_setObj_map _ hb, Result.andThen, hsame, setBlock]
    · simp [Instr.lookup, run_underlying ht, MapKept.run_getObj_map hb, K.check w es.isEmpty hkey, h1, Result.andThen]
noncomputable def balOf (D : DataW Unit) (p c : ByteArray) : Int := match D.atKey (accK p c) (.lit (.int .i64 0)) with
  | .lit (.int .i64 n) => n
  | _ => 0
theorem lookup_own {b n : Nat} {D : DataW Unit} {w : World} (h : accM w b n D) {p c : ByteArray} (hp : p.size ≤ maxLen) (hc : c.size ≤ maxLen) :
    (Instr.lookup 69 (.map (some b)) (.agg #[.string p, .string c]) false).run Tryd.prog w = .ok (.int .i64 (balOf D p c)) w ∧ (Lit.int .i64 (balOf D p c)).wf = true := by
  obtain ⟨x, h1, h2, h3⟩ := h.lookup_int keysAcc Tryd.underlying69 Tryd.underlying2 (by kernel_rfl) (key_acc p c hp hc)
  have e : balOf D p c = x := by unfold balOf; rw [h2]
  rw [e]
  exact ⟨h1, h3⟩
set_option maxRecDepth 100000 in
/-- 'm[k] += a' in its parts: the entry, then the store into it: just what 'm[k] = ..' does. -/
theorem entry_own {b n : Nat} {D : DataW Unit} {w : World} (h : accM w b n D) (hn : n < maxLen) {p c : ByteArray} (hp : p.size ≤ maxLen) (hc : c.size ≤ maxLen) :
    ∃ (v0 : Value) (st : Nat) (w2 : World), (Instr.mapEntry 69 (.map (some b)) (.agg #[.string p, .string c])).run Tryd.prog w = .ok (.tuple #[v0, goInt st]) w2 ∧ w.grownBy w2 (some b) ∧
      (Instr.lookup 69 (.map (some b)) (.agg #[.string p, .string c]) false).run Tryd.prog w2 = .ok (.int .i64 (balOf D p c)) w2 ∧
      ∀ x : Int, (Lit.int .i64 x).wf = true → ∃ w3, (Instr.entryStore 69 (.map (some b)) (goInt st) (.int .i64 x)).run Tryd.prog w2 = .ok () w3 ∧ accM w3 b (n + 1) (D.put (accK p c) (.lit (.int .i64 x))) ∧ w.grownBy w3 (some b) := by
  have hkey := key_acc p c hp hc
  have h' := h
  obtain ⟨l1, lw⟩ := lookup_own h hp hc
  obtain ⟨es, clock, hb, F, hs, hD⟩ := h
  obtain ⟨v0, st, es1, clock1, r1, _, r2⟩ := WideElems.entry_then_store (w := w) lawAcc Tryd.underlying69 (z := .int .i64 0) (fun u => by kernel_rfl) hb F hkey
  obtain ⟨v0', st', w2', s1, s2, s3⟩ := entry_same (w := w) lawAcc Tryd.underlying69 (z := .int .i64 0) (fun u => by kernel_rfl) hb F hkey
  rw [s1] at r1
  rw [s3] at l1
  have hv : v0' = .int .i64 (balOf D p c) := by cases l1; rfl
  subst hv
  have hg : ∀ o, w.grownBy (setBlock w b o) (some b) := fun o => ⟨rfl, rfl, rfl, by simp [setBlock], fun i _ hi => ChangeMaps.heap_setBlock_other hb _ (fun e => hi (by rw [e]))⟩
  obtain ⟨w', u1, u2, u3⟩ := h'.update keysAcc Tryd.underlying69 hn hkey (plainElem_int Tryd.underlying2 lw)
  rw [s2] at u1
  have hw : w2' = w' := by cases u1; rfl
  subst hw
  have hw2 : w2' = setBlock w b (.map es1 clock1) := by cases r1; rfl
  have hst : v0 = .int .i64 (balOf D p c) ∧ st' = st := by
    have := r1
    simp [goInt] at this
    exact ⟨this.1.1.symm, by have := this.1.2; omega⟩
  obtain ⟨rfl, rfl⟩ := hst
  refine ⟨_, st', w2', s1, u3, ?_, fun x hx => ?_⟩
  · have k := lookup_own u2 hp hc
    have e : balOf (D.put (accK p c) (.lit (.int .i64 (balOf D p c)))) p c = balOf D p c := by
      conv => lhs; unfold balOf
      rw [Maps.atKey_put_same h'.isMap (accK_is p c hp hc)]
      rfl
    rw [e] at k
    exact k.1
  · obtain ⟨es', clock', r3, r4⟩ := r2 (setBlock w b (.map es1 clock1)) (.int .i64 x) (ChangeMaps.heap_setBlock_same hb _)
    obtain ⟨w', r5, r6, r7⟩ := h'.update keysAcc Tryd.underlying69 hn hkey (plainElem_int Tryd.underlying2 hx)
    rw [r4] at r5
    rw [setBlock_twice] at r3
    cases r5
    rw [hw2]
    exact ⟨_, r3, r6, r7⟩
noncomputable def addLeg (D : DataW Unit) (x : Leg) : DataW Unit := D.put (accK x.party x.cur) (.lit (.int .i64 (wrap64 (balOf D x.party x.cur + x.amount))))
end Go.Proofs.YtmmbhmlhenpgbaaDoor
