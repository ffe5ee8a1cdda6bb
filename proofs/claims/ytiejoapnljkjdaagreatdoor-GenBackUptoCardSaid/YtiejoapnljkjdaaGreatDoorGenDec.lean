/- Proved: gen.Decode, as a contract. -/
import Derived.Test.YtiejoapnljkjdaaGreatDoorGenRow
import Derived.Deep.RegionWith
import Derived.Deep.RegionHeld3
import Derived.Deep.DeepCutAuto
namespace Go.Proofs.YtiejoapnljkjdaaGreatDoor
open Go.RowKit
set_option linter.unusedVariables false
set_option linter.unusedSimpArgs false
set_option maxRecDepth 100000
theorem row_form3 {W : World} {base : Nat} {e : TypeId} {s n : Nat} {v : Value} {xs : List Value} (h : W.ownsRow base e s v n xs) : ∃ p m c, v = .slice p m c := by
  obtain ⟨p, c, e⟩ := row_form h
  exact ⟨p, n, c, e⟩
namespace Gen
theorem bnd_assoc {α β γ : Type} (p : Rd α) (f : α → Rd β) (g : β → Rd γ) : bnd (bnd p f) g = bnd p fun a => bnd (f a) g := by
  funext l k
  simp only [bnd]
  cases p l k with
  | error e => rfl
  | ok x => rfl
theorem bnd_rt {α β : Type} (a : α) (f : α → Rd β) : bnd (rt a) f = f a := rfl
theorem rdW_bnd (K : Wt → Rd Cd) : bnd rdW K = bnd rdI fun e => bnd rdI fun d => bnd rdS fun s => bnd rdI fun f => bnd rdI fun g => K ⟨e, d, s, f, g⟩ := by
  unfold rdW; simp only [bnd_assoc, bnd_rt]
theorem rdX_bnd (K : Ix → Rd Cd) : bnd rdX K = bnd rdI fun o => bnd rdI fun a => bnd rdI fun b => bnd rdI fun c => bnd rdI fun n => bnd rdS fun s => bnd rdI fun t => K ⟨o, a, b, c, n, s, t⟩ := by
  unfold rdX; simp only [bnd_assoc, bnd_rt]
/-- What is left to read behind the waits, and behind the instructions. -/
def kI (r : Int) (w : List Wt) (i : List Ix) : Rd Cd := rt ⟨r, w, i⟩
def kM (r : Int) (w : List Wt) : Rd Cd := bnd (rdN 16384) fun m => bnd (rdMany rdX m) fun i => kI r w ([] ++ i)
theorem rdC_is : rdC = bnd rdI fun r => bnd (rdN 250) fun n => bnd (rdMany rdW n) fun w => kM r ([] ++ w) := rfl
theorem Inv.manyW {l : List UInt8} {r : Int} {n a : Nat} {acc : List Wt} (h : Inv l (bnd (rdMany rdW (n + 1)) fun w => kM r (acc ++ w)) a true) :
    Inv l (bnd rdI fun e => bnd rdI fun d => bnd rdS fun s => bnd rdI fun f => bnd rdI fun g => bnd (rdMany rdW n) fun w => kM r ((acc ++ [⟨e, d, s, f, g⟩]) ++ w)) a true := by
  unfold Inv at *
  rw [h]
  simp only [cond_true]
  rw [bnd_many rdW n (fun w => kM r w) acc l a, rdW_bnd]
theorem Inv.manyX {l : List UInt8} {r : Int} {lw : List Wt} {n a : Nat} {acc : List Ix} (h : Inv l (bnd (rdMany rdX (n + 1)) fun i => kI r lw (acc ++ i)) a true) :
    Inv l (bnd rdI fun o => bnd rdI fun x => bnd rdI fun y => bnd rdI fun z => bnd rdI fun k => bnd rdS fun s => bnd rdI fun t => bnd (rdMany rdX n) fun i => kI r lw ((acc ++ [⟨o, x, y, z, k, s, t⟩]) ++ i)) a true := by
  unfold Inv at *
  rw [h]
  simp only [cond_true]
  rw [bnd_many rdX n (fun i => kI r lw i) acc l a, rdX_bnd]
theorem Inv.endW {l : List UInt8} {r : Int} {n a : Nat} {ok : Bool} {acc : List Wt} (h : Inv l (bnd (rdMany rdW n) fun w => kM r (acc ++ w)) a ok) (hn : n = 0 ∨ ok = false) : Inv l (kM r acc) a ok := by
  rcases hn with rfl | rfl
  · unfold Inv at *
    rw [h]
    cases ok with
    | false => rfl
    | true => simp [bnd, rdMany, rt]
  · exact h.bad
theorem Inv.endX {l : List UInt8} {r : Int} {lw : List Wt} {n a : Nat} {ok : Bool} {acc : List Ix} (h : Inv l (bnd (rdMany rdX n) fun i => kI r lw (acc ++ i)) a ok) (hn : n = 0 ∨ ok = false) : Inv l (kI r lw acc) a ok := by
  rcases hn with rfl | rfl
  · unfold Inv at *
    rw [h]
    cases ok with
    | false => rfl
    | true => simp [bnd, rdMany, rt]
  · exact h.bad
theorem dec_bad {l : List UInt8} {F : Rd Cd} {a : Nat} (h : Inv l F a false) : dec 172 170 l = (cd0, a, 172) := by
  unfold Inv at h
  unfold dec
  rw [h]; rfl
theorem dec_end {l : List UInt8} {r : Int} {lw : List Wt} {li : List Ix} {a : Nat} (h : Inv l (kI r lw li) a true) : dec 172 170 l = if a < l.length then (cd0, a, 172) else if right ⟨r, lw, li⟩ = true then (⟨r, lw, li⟩, 0, 0) else (cd0, 0, 170) := by
  unfold Inv at h
  unfold dec
  rw [h]; rfl
theorem vC_le (l : List UInt8) (a most : Nat) (ok : Bool) : vC l a most ok ≤ most := by
  unfold vC oC
  cases h : (oI l a ok && (decide (0 ≤ numV l a) && decide (numV l a ≤ (most : Int)))) with
  | false => simp
  | true =>
    simp at h
    simp; omega
end Gen
theorem DecSt.addW {w : World} {b2 rb cb : Nat} {v0 : Value} {a : Nat} {ok : Bool} {regs : Int} {vw vi v' : Value} {lw lw' : List Gen.Wt} {li : List Gen.Ix} {W W' : World} (h : DecSt w b2 rb cb v0 a ok regs vw vi lw li W)
    (row : WtRow (cb + 1) W' v' lw') (g : W.grownBy W' vw.ownBlock) (hn : vi.ownBlock = none) : DecSt w b2 rb cb v0 a ok regs v' vi lw' li (W'.setCell ⟨cb, 1, none⟩ v') := by
  have hl := h.lt
  have k1 := fun (b : Nat) (o : Obj) (hb : b < cb + 1) (e : W.heap[b]? = some o) => (g.block b (lt_of_block e) (fun e => own_lt h.ws hb e.symm)).trans e
  have gs := grown_set W' cb 1 v'
  have hc : W'.heap.size ≥ W.heap.size := g.size
  refine ⟨?_, box_grown gs (by omega) (k1 rb _ (by omega) h.rd), ?_, box_grown gs (by omega) (k1 b2 _ (by omega) h.kr), World.ownsRow.kept row gs (.inr (own_lt row (by omega))), World.ownsRow.kept (World.ownsRow.kept h.is g (.inl hn)) gs (.inl hn), h.lt⟩
  · refine below_grown (h.bel.trans ⟨g.os, g.tape, g.output, g.size, fun k hk => g.block k (Nat.lt_of_lt_of_le hk h.bel.size) (fun e => own_lt h.ws (by omega) e.symm)⟩) gs (by omega) (Nat.le_trans h.bel.size g.size)
  · exact heap_setCell_same W' cb 1 _ _ v' (k1 cb _ (by omega) h.kc)
theorem row_ne {W : World} {b1 b2 s1 s2 n1 n2 : Nat} {t1 t2 : TypeId} {v1 v2 : Value} {x1 x2 : List Value} (h1 : W.ownsRow b1 t1 s1 v1 n1 x1) (h2 : W.ownsRow b2 t2 s2 v2 n2 x2) (ht : t1 ≠ t2) : v1.ownBlock = none ∨ v1.ownBlock ≠ v2.ownBlock := by
  rcases h1.2 with ⟨rfl, _⟩ | ⟨g1, c1, u1, rfl, _, e1, _⟩
  · exact .inl rfl
  · refine .inr ?_
    rcases h2.2 with ⟨rfl, _⟩ | ⟨g2, c2, u2, rfl, _, e2, _⟩
    · intro e; cases e
    · intro e
      have e3 : g1 = g2 := Option.some.inj e
      rw [e3, e2] at e1
      simp at e1
      exact ht e1.2.symm
theorem DecSt.addI {w : World} {b2 rb cb : Nat} {v0 : Value} {a : Nat} {ok : Bool} {regs : Int} {vw vi v' : Value} {lw : List Gen.Wt} {li li' : List Gen.Ix} {W W' : World} (h : DecSt w b2 rb cb v0 a ok regs vw vi lw li W)
    (row : IxRow (cb + 1) W' v' li') (g : W.grownBy W' vi.ownBlock) : DecSt w b2 rb cb v0 a ok regs vw v' lw li' (W'.setCell ⟨cb, 2, none⟩ v') := by
  have hl := h.lt
  have k1 := fun (b : Nat) (o : Obj) (hb : b < cb + 1) (e : W.heap[b]? = some o) => (g.block b (lt_of_block e) (fun e => own_lt h.is hb e.symm)).trans e
  have gs := grown_set W' cb 2 v'
  refine ⟨?_, box_grown gs (by omega) (k1 rb _ (by omega) h.rd), ?_, box_grown gs (by omega) (k1 b2 _ (by omega) h.kr), ?_, World.ownsRow.kept row gs (.inr (own_lt row (by omega))), h.lt⟩
  · refine below_grown (h.bel.trans ⟨g.os, g.tape, g.output, g.size, fun k hk => g.block k (Nat.lt_of_lt_of_le hk h.bel.size) (fun e => own_lt h.is (by omega) e.symm)⟩) gs (by omega) (Nat.le_trans h.bel.size g.size)
  · exact heap_setCell_same W' cb 2 _ _ v' (k1 cb _ (by omega) h.kc)
  · have hw := World.ownsRow.kept h.ws g (row_ne h.ws h.is (by decide))
    exact World.ownsRow.kept hw gs (.inr (own_lt hw (by omega)))
theorem own_new {W : World} {base : Nat} {e : TypeId} {s n : Nat} {v : Value} {xs : List Value} (h : W.ownsRow base e s v n xs) : v.ownBlock ≠ some W.heap.size := by
  rcases h.2 with ⟨rfl, _⟩ | ⟨g, cap, cur, rfl, _, hg, _⟩
  · intro e; cases e
  · intro e
    have e3 : g = W.heap.size := Option.some.inj e
    have := lt_of_block hg
    omega
theorem DecSt.fin {w : World} {b2 rb cb : Nat} {v0 : Value} {a : Nat} {ok : Bool} {regs : Int} {vw vi : Value} {lw : List Gen.Wt} {li : List Gen.Ix} {W : World} (h : DecSt w b2 rb cb v0 a ok regs vw vi lw li W) (r : Int) (x y : Value) :
    CdBox (((W.setCell ⟨b2, 0, none⟩ (.int .i64 r)).setCell ⟨b2, 1, none⟩ x).setCell ⟨b2, 2, none⟩ y) b2 r x y ∧ W.grownBy (((W.setCell ⟨b2, 0, none⟩ (.int .i64 r)).setCell ⟨b2, 1, none⟩ x).setCell ⟨b2, 2, none⟩ y) (some b2) :=
  ⟨heap_setCell_same _ b2 2 _ _ y (heap_setCell_same _ b2 1 _ _ x (heap_setCell_same W b2 0 _ _ (.int .i64 r) h.kr)), grown_trans (grown_trans (grown_set _ b2 0 _) (grown_set _ b2 1 _)) (grown_set _ b2 2 _)⟩
theorem cdAt0 (W : World) : CdAt W (.agg #[.int .i64 0, .slice none 0 0, .slice none 0 0]) Gen.cd0 :=
  ⟨_, _, rfl, ⟨none, 0, rfl, ⟨Nat.le_refl _, Nat.zero_le _⟩, fun i w h => by cases h⟩, ⟨none, 0, rfl, ⟨Nat.le_refl _, Nat.zero_le _⟩, fun i w h => by cases h⟩, ⟨by decide, by decide⟩⟩
def GenDecPost (l : List UInt8) (w : World) (e : Ending) (w' : World) : Prop := ∃ u, e = .returned (.tuple #[u, .int .i64 ((Gen.dec 172 170 l).2.1 : Int), .int .i64 (Gen.dec 172 170 l).2.2]) ∧ CdAt w' u (Gen.dec 172 170 l).1 ∧ Below w.heap.size w w'
set_option maxHeartbeats 8000000 in
theorem decode_any (v : Value) (l : List UInt8) (w : World) (hv : Reads w v (nums l)) (hl : l.length ≤ 140737488355300) : Calls Tryz.prog 12 #[v] w (GenDecPost l w) := by
  obtain ⟨p, c, rfl⟩ := hv.len
  rw [nums_length] at *
  have HV := hid' (fun (W : World) (b : Below w.heap.size w W) => hv.below b)
  have HL := hid' hl
  have hli : (l.length : Int) ≤ 140737488355300 := by omega
  have hB0 : Below w.heap.size w ((w.alloc (.cells #[.int .i64 0, .slice none 0 0, .slice none 0 0] 25)).alloc (.cells #[.slice p l.length c, .int .i64 0, .bool true] 70)) := ((Below.refl _ _).alloc (Nat.le_refl _) _).alloc (by simp) _
  have hRd : RdBox ((w.alloc (.cells #[.int .i64 0, .slice none 0 0, .slice none 0 0] 25)).alloc (.cells #[.slice p l.length c, .int .i64 0, .bool true] 70)) (w.heap.size + 1) (.slice p l.length c) 0 true := by
    have := heap_alloc_new (w.alloc (.cells #[.int .i64 0, .slice none 0 0, .slice none 0 0] 25)) (.cells #[.slice p l.length c, .int .i64 0, .bool true] 70)
    rwa [World.size_alloc] at this
  have hKr : CdBox ((w.alloc (.cells #[.int .i64 0, .slice none 0 0, .slice none 0 0] 25)).alloc (.cells #[.slice p l.length c, .int .i64 0, .bool true] 70)) w.heap.size 0 (.slice none 0 0) (.slice none 0 0) :=
    (Below.heap_alloc _ _ _ (by simp)).trans (heap_alloc_new w _)
  have HI0 := hid' (show Gen.Inv l (Gen.bnd Gen.rdI fun r => Gen.bnd (Gen.rdN 250) fun n => Gen.bnd (Gen.rdMany Gen.rdW n) fun w => Gen.kM r ([] ++ w)) 0 true from rfl)
  have H0 := hid' (And.intro hB0 (And.intro hRd hKr))
  clear hv hl hB0 hRd hKr
  go_enter Tryz.func12, Tryz.ntmps12
  go_wp2_with fail
  refine (rdInt_any l (w.heap.size + 1) (.slice p l.length c) 0 true _ H0.out.2.1 (HV.out _ H0.out.1) HL.out).mono ?_
  rintro e w2 ⟨rfl, hr2, g2⟩
  have HI1 := hid' HI0.out.int
  have hb2 := below_grown H0.out.1 g2 (by omega) H0.out.1.size
  have hk2 := box_grown g2 (by omega) H0.out.2.2
  clear g2 HI0 H0
  generalize Gen.nI l 0 true = a1 at *
  generalize Gen.oI l 0 true = o1 at *
  have HNV := hid' (numV_in l 0)
  generalize numV l 0 = regs at *
  have hS : DecSt w w.heap.size (w.heap.size + 1) w2.heap.size (.slice p l.length c) a1 o1 regs (.slice none 0 0) (.slice none 0 0) [] [] (w2.alloc (.cells #[.int .i64 regs, .slice none 0 0, .slice none 0 0] 25)) :=
    ⟨hb2.trans ((Below.refl _ _).alloc hb2.size _), (Below.heap_alloc _ _ _ (lt_of_block hr2)).trans hr2, heap_alloc_new _ _, (Below.heap_alloc _ _ _ (lt_of_block hk2)).trans hk2, World.ownsRow_nil _ _ _ _, World.ownsRow_nil _ _ _ _, ⟨Nat.le_refl _, by omega, lt_of_block hr2⟩⟩
  have HS := hid' hS
  clear hS hb2 hk2 hr2
  go_upto_region 3 with (fail)
  generalize w2.alloc (.cells #[.int .i64 regs, .slice none 0 0, .slice none 0 0] 25) = w3 at *
  generalize w2.heap.size = cb at *
  obtain ⟨rb, hrb⟩ : ∃ rb, rb = w.heap.size + 1 := ⟨_, rfl⟩
  obtain ⟨b2, hb2⟩ : ∃ b, b = w.heap.size := ⟨_, rfl⟩
  rw [← hrb] at HS ⊢
  rw [← hb2] at HS ⊢
  clear hrb hb2
  go_wp2_with fail
  refine (rdCount_any l 250 rb (.slice p l.length c) a1 o1 _ HS.out.rd (HV.out _ HS.out.bel) HL.out).mono ?_
  rintro e w4 ⟨rfl, hr4, g4⟩
  have HS4 := hid' (HS.out.read g4 hr4)
  have HI2 := hid' HI1.out.count
  have HN := hid' (Gen.vC_le l a1 250 o1)
  clear g4 hr4 HS HI1
  generalize Gen.nC l a1 250 o1 = a2 at *
  generalize Gen.oC l a1 250 o1 = o2 at *
  generalize Gen.vC l a1 250 o1 = n0 at *
  have HF0 := hid' (show ∀ x ∈ ([] : List Gen.Wt), WtFits x from fun x h => by cases h)
  have HN0 := hid' (show ([] : List Gen.Wt).length + n0 ≤ 250 from by have := HN.out; simpa using this)
  clear HN
  go_wp2_with fail
  go_loopw [7] (fun nv wr => ∃ (n a : Nat) (ok : Bool) (vw : Value) (lw : List Gen.Wt), nv = .int .i64 (n : Int) ∧ Hid (DecSt w b2 rb cb (.slice p l.length c) a ok regs vw (.slice none 0 0) lw [] wr) ∧ Hid (Gen.Inv l (Gen.bnd (Gen.rdMany Gen.rdW n) fun w => Gen.kM regs (lw ++ w)) a ok) ∧ Hid (lw.length + n ≤ 250) ∧ Hid (∀ x ∈ lw, WtFits x)) (fun nv _ => (intOf nv).toNat)
  case atStart => exact ⟨n0, a2, o2, _, [], rfl, HS4, HI2, HN0, HF0⟩
  case round =>
    obtain ⟨n, a, ok, vw, lw, rfl, HS, HI, HN, HF⟩ := hrel
    clear HS4 HI2 HN0 HF0
    have r2 := bcells HS.out.rd 2 _ rfl
    by_cases ht : 0 < n ∧ ok = true
    · obtain ⟨hn, rfl⟩ := ht
      obtain ⟨n, rfl⟩ : ∃ m, n = m + 1 := ⟨n - 1, by omega⟩
      have HI3 := hid' HI.out.manyW
      have g1 : decide ((0 : Int) < ((n + 1 : Nat) : Int)) = true := by first | (simp; done) | (simp; omega)
      have g2 : decide ((0 : Int) < (n : Int) + 1) = true := by first | (simp; done) | (simp; omega)
      have hn250 : (n : Int) ≤ 250 := by have := HN.out; omega
      have wn : IntKind.i64.wrap ((n : Int) + 1 - 1) = (n : Int) := by rw [IntWalk.i64_in _ (by omega)]; omega
      clear HI hn
      have hB8 := (Below.refl wr.heap.size wr).alloc (Nat.le_refl _) (.cells #[.int .i64 0, .int .i64 0, .string ⟨#[]⟩, .int .i64 0, .int .i64 0] 56)
      have hb8 := heap_alloc_new wr (.cells #[.int .i64 0, .int .i64 0, .string ⟨#[]⟩, .int .i64 0, .int .i64 0] 56)
      have hlt8 : w.heap.size ≤ wr.heap.size := HS.out.bel.size
      have hne : wr.heap.size ≠ b2 ∧ wr.heap.size ≠ rb ∧ wr.heap.size ≠ cb ∧ vw.ownBlock ≠ some wr.heap.size ∧ (Value.slice none 0 0).ownBlock ≠ some wr.heap.size := by
        have q1 := lt_of_block HS.out.rd
        have q2 := lt_of_block HS.out.kc
        have q3 := lt_of_block HS.out.kr
        refine ⟨by omega, by omega, by omega, ?_, fun e => by cases e⟩
        rcases HS.out.ws.2 with ⟨rfl, _⟩ | ⟨g, cap, cur, rfl, _, hg, _⟩
        · intro e; cases e
        · intro e
          have e3 : g = wr.heap.size := Option.some.inj e
          have := lt_of_block hg
          omega
      have H8 := hid' (And.intro (HS.out.below hB8) hb8)
      have HNE := hid' (And.intro hlt8 hne)
      go_upto_region 7 with (fail)
      clear hB8 hb8 hlt8 hne r2 HS
      generalize wr.alloc (.cells #[.int .i64 0, .int .i64 0, .string ⟨#[]⟩, .int .i64 0, .int .i64 0] 56) = w8 at *
      generalize wr.heap.size = b8 at *
      go_wp2_with fail
      refine (rdInt_any l rb (.slice p l.length c) a true _ H8.out.1.rd (HV.out _ H8.out.1.bel) HL.out).mono ?_
      rintro e wq ⟨rfl, hr, hg⟩
      have hS := And.intro (H8.out.1.read hg hr) (box_grown hg HNE.out.2.2.1 H8.out.2)
      have hI := HI3.out.int
      clear H8 HI3
      have H8 := hid' hS
      have HI3 := hid' hI
      have HV_e1 := hid' (numV_in l a)
      clear hS hI hr hg
      generalize Gen.nI l a true = m1 at *
      generalize Gen.oI l a true = p1 at *
      generalize numV l a = e1 at *
      go_wp2_with fail
      refine (rdInt_any l rb (.slice p l.length c) m1 p1 _ H8.out.1.rd (HV.out _ H8.out.1.bel) HL.out).mono ?_
      rintro e wq ⟨rfl, hr, hg⟩
      have hS := And.intro (H8.out.1.read hg hr) (box_grown hg HNE.out.2.2.1 H8.out.2)
      have hI := HI3.out.int
      clear H8 HI3
      have H8 := hid' hS
      have HI3 := hid' hI
      have HV_e2 := hid' (numV_in l m1)
      clear hS hI hr hg
      generalize Gen.nI l m1 p1 = m2 at *
      generalize Gen.oI l m1 p1 = p2 at *
      generalize numV l m1 = e2 at *
      go_wp2_with fail
      refine (rdText_any l rb (.slice p l.length c) m2 p2 _ H8.out.1.rd (HV.out _ H8.out.1.bel) HL.out).mono ?_
      rintro e wq ⟨rfl, hr, hg⟩
      have hS := And.intro (H8.out.1.read hg hr) (box_grown hg HNE.out.2.2.1 H8.out.2)
      have hI := HI3.out.text
      clear H8 HI3
      have H8 := hid' hS
      have HI3 := hid' hI
      have HV_e3 := hid' (txtV_len l m2)
      clear hS hI hr hg
      generalize Gen.nS l m2 p2 = m3 at *
      generalize Gen.oS l m2 p2 = p3 at *
      generalize txtV l m2 = e3 at *
      have s0 := bcells H8.out.2 0 _ rfl
      have f0 := frozen_of (o := 0) H8.out.2
      have s1 := bcells H8.out.2 1 _ rfl
      have f1 := frozen_of (o := 1) H8.out.2
      have s2 := bcells H8.out.2 2 _ rfl
      have f2 := frozen_of (o := 2) H8.out.2
      have hg := (grown_trans (grown_trans (grown_set wq b8 0 (.int .i64 e1)) (grown_set _ b8 1 (.int .i64 e2))) (grown_set _ b8 2 (.string e3)))
      have hb := (heap_setCell_same _ b8 2 _ _ (.string e3) (heap_setCell_same _ b8 1 _ _ (.int .i64 e2) (heap_setCell_same _ b8 0 _ _ (.int .i64 e1) H8.out.2)))
      have hS := H8.out.1.other hg HNE.out.1 HNE.out.2.1 HNE.out.2.2.1 HNE.out.2.2.2.1 HNE.out.2.2.2.2.1 HNE.out.2.2.2.2.2
      have hS2 := And.intro hS (show _ = some (Obj.cells #[.int .i64 e1, .int .i64 e2, .string e3, .int .i64 0, .int .i64 0] 56 (0, 0)) from hb)
      have HT8 := hid' hS2
      clear hg hb hS hS2 H8
      go_upto_region 8 with (fail)
      clear s0 f0 s1 f1 s2 f2
      generalize World.setCell _ _ _ = wst at *
      have H8 := HT8
      clear HT8
      go_wp2_with fail
      refine (rdInt_any l rb (.slice p l.length c) m3 p3 _ H8.out.1.rd (HV.out _ H8.out.1.bel) HL.out).mono ?_
      rintro e wq ⟨rfl, hr, hg⟩
      have hS := And.intro (H8.out.1.read hg hr) (box_grown hg HNE.out.2.2.1 H8.out.2)
      have hI := HI3.out.int
      clear H8 HI3
      have H8 := hid' hS
      have HI3 := hid' hI
      have HV_e4 := hid' (numV_in l m3)
      clear hS hI hr hg
      generalize Gen.nI l m3 p3 = m4 at *
      generalize Gen.oI l m3 p3 = p4 at *
      generalize numV l m3 = e4 at *
      go_wp2_with fail
      refine (rdInt_any l rb (.slice p l.length c) m4 p4 _ H8.out.1.rd (HV.out _ H8.out.1.bel) HL.out).mono ?_
      rintro e wq ⟨rfl, hr, hg⟩
      have hS := And.intro (H8.out.1.read hg hr) (box_grown hg HNE.out.2.2.1 H8.out.2)
      have hI := HI3.out.int
      clear H8 HI3
      have H8 := hid' hS
      have HI3 := hid' hI
      have HV_e5 := hid' (numV_in l m4)
      clear hS hI hr hg
      generalize Gen.nI l m4 p4 = m5 at *
      generalize Gen.oI l m4 p4 = p5 at *
      generalize numV l m4 = e5 at *
      have s3 := bcells H8.out.2 3 _ rfl
      have f3 := frozen_of (o := 3) H8.out.2
      have s4 := bcells H8.out.2 4 _ rfl
      have f4 := frozen_of (o := 4) H8.out.2
      have hg := (grown_trans (grown_set wq b8 3 (.int .i64 e4)) (grown_set _ b8 4 (.int .i64 e5)))
      have hb := (heap_setCell_same _ b8 4 _ _ (.int .i64 e5) (heap_setCell_same _ b8 3 _ _ (.int .i64 e4) H8.out.2))
      have hS := H8.out.1.other hg HNE.out.1 HNE.out.2.1 HNE.out.2.2.1 HNE.out.2.2.2.1 HNE.out.2.2.2.2.1 HNE.out.2.2.2.2.2
      have hS2 := And.intro hS (show _ = some (Obj.cells #[.int .i64 e1, .int .i64 e2, .string e3, .int .i64 e4, .int .i64 e5] 56 (0, 0)) from hb)
      have HT8 := hid' hS2
      clear hg hb hS hS2 H8
      go_upto_region 9 with (fail)
      clear s3 f3 s4 f4
      generalize World.setCell _ _ _ = wst at *
      have H8 := HT8
      clear HT8
      have x0 := bcells H8.out.2 0 _ rfl
      have x1 := bcells H8.out.2 1 _ rfl
      have x2 := bcells H8.out.2 2 _ rfl
      have x3 := bcells H8.out.2 3 _ rfl
      have x4 := bcells H8.out.2 4 _ rfl
      have c1 := bcells H8.out.1.kc 1 _ rfl
      obtain ⟨pv, cv, rfl⟩ := row_form H8.out.1.ws
      go_wp2_with (refine append_wt rfl _ _ rfl (cb + 1) (.slice pv lw.length cv) lw rfl H8.out.1.ws ⟨e1, e2, e3, e4, e5⟩ rfl (by have := HN.out; omega) (lt_of_block H8.out.1.kc) (fun v' w' h1 h2 => ?_); refine halt' ?_)
      obtain ⟨pv', mv', cv', rfl⟩ := row_form3 h1
      have hk := (h2.block cb (lt_of_block H8.out.1.kc) (fun e => own_lt H8.out.1.ws (by omega) e.symm)).trans H8.out.1.kc
      have y1 := bcells hk 1 _ rfl
      have y2 := frozen_of (o := 1) hk
      have HS9 := hid' (H8.out.1.addW h1 h2 rfl)
      have HF9 := hid' (show ∀ x ∈ lw ++ [(⟨e1, e2, e3, e4, e5⟩ : Gen.Wt)], WtFits x from fun x hx => by
        rcases List.mem_append.1 hx with h | h
        · exact HF.out x h
        · rw [List.mem_singleton] at h
          subst h
          exact ⟨HV_e1.out, HV_e2.out, by have := HV_e3.out; show e3.size ≤ 2000000; omega, HV_e4.out, HV_e5.out⟩)
      have HN9 := hid' (show (lw ++ [(⟨e1, e2, e3, e4, e5⟩ : Gen.Wt)]).length + n ≤ 250 by rw [List.length_append]; have := HN.out; simp; omega)
      clear h1 h2 hk x0 x1 x2 x3 x4 c1 H8
      refine hid' ?_
      go_wp2_with fail
      go_roundw
      case rel => exact ⟨n, m5, p5, _, _, by go_num, HS9, HI3, HN9, HF9⟩
      case measure => simp [intOf]
    · have HEW := hid' (HI.out.endW (by rcases Nat.eq_zero_or_pos n with h | h; exact .inl h; refine .inr ?_; cases ok; rfl; exact absurd ⟨h, rfl⟩ ht))
      go_upto_region 4 with (fail)
      go_cut [26] (fun v wx => v = .bool false ∧ wx = wr)
      case first =>
        by_cases hn : 0 < n
        · obtain rfl : ok = false := by cases ok; rfl; exact absurd ⟨hn, rfl⟩ ht
          have g1 : decide ((0 : Int) < (n : Int)) = true := decide_eq_true (by omega)
          have g1n : decide (0 < n) = true := decide_eq_true hn
          clear ht hn
          go_wp2_with fail
          go_meet
          exact ⟨rfl, rfl⟩
        · have g1 : decide ((0 : Int) < (n : Int)) = false := decide_eq_false (by omega)
          have g1n : decide (0 < n) = false := decide_eq_false hn
          clear ht hn
          go_wp2_with fail
          go_meet
          exact ⟨rfl, rfl⟩
      case rest =>
        obtain ⟨rfl, rfl⟩ := hcut
        clear r2 ht HI HN
        go_wp2_with fail
        refine (rdCount_any l 16384 rb (.slice p l.length c) a ok _ HS.out.rd (HV.out _ HS.out.bel) HL.out).mono ?_
        rintro e wq ⟨rfl, hr4, g4⟩
        have HS4 := hid' (HS.out.read g4 hr4)
        have HI2 := hid' (show Gen.Inv l (Gen.bnd (Gen.rdN 16384) fun m => Gen.bnd (Gen.rdMany Gen.rdX m) fun i => Gen.kI regs lw ([] ++ i)) a ok from HEW.out).count
        have HN := hid' (Gen.vC_le l a 16384 ok)
        clear g4 hr4 HS HEW
        generalize Gen.nC l a 16384 ok = a2 at *
        generalize Gen.oC l a 16384 ok = o2 at *
        generalize Gen.vC l a 16384 ok = n0 at *
        have HF0 := hid' (show ∀ x ∈ ([] : List Gen.Ix), IxFits x from fun x h => by cases h)
        have HN0 := hid' (show ([] : List Gen.Ix).length + n0 ≤ 16384 from by have := HN.out; simpa using this)
        clear HN
        obtain ⟨HFW, _⟩ : Hid (∀ x ∈ lw, WtFits x) ∧ True := ⟨HF, trivial⟩
        clear HF
        go_wp2_with fail
        go_loopw [9] (fun nv wr => ∃ (n a : Nat) (ok : Bool) (vi : Value) (li : List Gen.Ix), nv = .int .i64 (n : Int) ∧ Hid (DecSt w b2 rb cb (.slice p l.length c) a ok regs vw vi lw li wr) ∧ Hid (Gen.Inv l (Gen.bnd (Gen.rdMany Gen.rdX n) fun i => Gen.kI regs lw (li ++ i)) a ok) ∧ Hid (li.length + n ≤ 16384) ∧ Hid (∀ x ∈ li, IxFits x)) (fun nv _ => (intOf nv).toNat)
        case atStart => exact ⟨n0, a2, o2, _, [], rfl, HS4, HI2, HN0, HF0⟩
        case round =>
          obtain ⟨n, a, ok, vi, li, rfl, HS, HI, HN, HF⟩ := hrel
          clear HS4 HI2 HN0 HF0
          have r2 := bcells HS.out.rd 2 _ rfl
          by_cases ht : 0 < n ∧ ok = true
          · obtain ⟨hn, rfl⟩ := ht
            obtain ⟨n, rfl⟩ : ∃ m, n = m + 1 := ⟨n - 1, by omega⟩
            have HI3 := hid' HI.out.manyX
            have g1 : decide ((0 : Int) < ((n + 1 : Nat) : Int)) = true := by first | (simp; done) | (simp; omega)
            have g2 : decide ((0 : Int) < (n : Int) + 1) = true := by first | (simp; done) | (simp; omega)
            have hn250 : (n : Int) ≤ 16384 := by have := HN.out; omega
            have wn : IntKind.i64.wrap ((n : Int) + 1 - 1) = (n : Int) := by rw [IntWalk.i64_in _ (by omega)]; omega
            clear HI hn
            have hB8 := (Below.refl wr.heap.size wr).alloc (Nat.le_refl _) (.cells #[.int .i64 0, .int .i64 0, .int .i64 0, .int .i64 0, .int .i64 0, .string ⟨#[]⟩, .int .i64 0] 53)
            have hb8 := heap_alloc_new wr (.cells #[.int .i64 0, .int .i64 0, .int .i64 0, .int .i64 0, .int .i64 0, .string ⟨#[]⟩, .int .i64 0] 53)
            have hlt8 : w.heap.size ≤ wr.heap.size := HS.out.bel.size
            have hne : wr.heap.size ≠ b2 ∧ wr.heap.size ≠ rb ∧ wr.heap.size ≠ cb ∧ vw.ownBlock ≠ some wr.heap.size ∧ vi.ownBlock ≠ some wr.heap.size := by
              have q1 := lt_of_block HS.out.rd
              have q2 := lt_of_block HS.out.kc
              have q3 := lt_of_block HS.out.kr
              exact ⟨by omega, by omega, by omega, own_new HS.out.ws, own_new HS.out.is⟩
            have H8 := hid' (And.intro (HS.out.below hB8) hb8)
            have HNE := hid' (And.intro hlt8 hne)
            go_upto_region 14 with (fail)
            clear hB8 hb8 hlt8 hne r2 HS
            generalize wr.alloc (.cells #[.int .i64 0, .int .i64 0, .int .i64 0, .int .i64 0, .int .i64 0, .string ⟨#[]⟩, .int .i64 0] 53) = w8 at *
            generalize wr.heap.size = b8 at *
            go_wp2_with fail
            refine (rdInt_any l rb (.slice p l.length c) a true _ H8.out.1.rd (HV.out _ H8.out.1.bel) HL.out).mono ?_
            rintro e wq ⟨rfl, hr, hg⟩
            have hS := And.intro (H8.out.1.read hg hr) (box_grown hg HNE.out.2.2.1 H8.out.2)
            have hI := HI3.out.int
            clear H8 HI3
            have H8 := hid' hS
            have HI3 := hid' hI
            have HV_e1 := hid' (numV_in l a)
            clear hS hI hr hg
            generalize Gen.nI l a true = m1 at *
            generalize Gen.oI l a true = p1 at *
            generalize numV l a = e1 at *
            go_wp2_with fail
            refine (rdInt_any l rb (.slice p l.length c) m1 p1 _ H8.out.1.rd (HV.out _ H8.out.1.bel) HL.out).mono ?_
            rintro e wq ⟨rfl, hr, hg⟩
            have hS := And.intro (H8.out.1.read hg hr) (box_grown hg HNE.out.2.2.1 H8.out.2)
            have hI := HI3.out.int
            clear H8 HI3
            have H8 := hid' hS
            have HI3 := hid' hI
            have HV_e2 := hid' (numV_in l m1)
            clear hS hI hr hg
            generalize Gen.nI l m1 p1 = m2 at *
            generalize Gen.oI l m1 p1 = p2 at *
            generalize numV l m1 = e2 at *
            go_wp2_with fail
            refine (rdInt_any l rb (.slice p l.length c) m2 p2 _ H8.out.1.rd (HV.out _ H8.out.1.bel) HL.out).mono ?_
            rintro e wq ⟨rfl, hr, hg⟩
            have hS := And.intro (H8.out.1.read hg hr) (box_grown hg HNE.out.2.2.1 H8.out.2)
            have hI := HI3.out.int
            clear H8 HI3
            have H8 := hid' hS
            have HI3 := hid' hI
            have HV_e3 := hid' (numV_in l m2)
            clear hS hI hr hg
            generalize Gen.nI l m2 p2 = m3 at *
            generalize Gen.oI l m2 p2 = p3 at *
            generalize numV l m2 = e3 at *
            go_wp2_with fail
            refine (rdInt_any l rb (.slice p l.length c) m3 p3 _ H8.out.1.rd (HV.out _ H8.out.1.bel) HL.out).mono ?_
            rintro e wq ⟨rfl, hr, hg⟩
            have hS := And.intro (H8.out.1.read hg hr) (box_grown hg HNE.out.2.2.1 H8.out.2)
            have hI := HI3.out.int
            clear H8 HI3
            have H8 := hid' hS
            have HI3 := hid' hI
            have HV_e4 := hid' (numV_in l m3)
            clear hS hI hr hg
            generalize Gen.nI l m3 p3 = m4 at *
            generalize Gen.oI l m3 p3 = p4 at *
            generalize numV l m3 = e4 at *
            have s0 := bcells H8.out.2 0 _ rfl
            have f0 := frozen_of (o := 0) H8.out.2
            have s1 := bcells H8.out.2 1 _ rfl
            have f1 := frozen_of (o := 1) H8.out.2
            have s2 := bcells H8.out.2 2 _ rfl
            have f2 := frozen_of (o := 2) H8.out.2
            have s3 := bcells H8.out.2 3 _ rfl
            have f3 := frozen_of (o := 3) H8.out.2
            have hg := (grown_trans (grown_trans (grown_trans (grown_set wq b8 0 (.int .i64 e1)) (grown_set _ b8 1 (.int .i64 e2))) (grown_set _ b8 2 (.int .i64 e3))) (grown_set _ b8 3 (.int .i64 e4)))
            have hb := (heap_setCell_same _ b8 3 _ _ (.int .i64 e4) (heap_setCell_same _ b8 2 _ _ (.int .i64 e3) (heap_setCell_same _ b8 1 _ _ (.int .i64 e2) (heap_setCell_same _ b8 0 _ _ (.int .i64 e1) H8.out.2))))
            have hS := H8.out.1.other hg HNE.out.1 HNE.out.2.1 HNE.out.2.2.1 HNE.out.2.2.2.1 HNE.out.2.2.2.2.1 HNE.out.2.2.2.2.2
            have hS2 := And.intro hS (show _ = some (Obj.cells #[.int .i64 e1, .int .i64 e2, .int .i64 e3, .int .i64 e4, .int .i64 0, .string ⟨#[]⟩, .int .i64 0] 53 (0, 0)) from hb)
            have HT8 := hid' hS2
            clear hg hb hS hS2 H8
            go_upto_region 15 with (fail)
            clear s0 f0 s1 f1 s2 f2 s3 f3
            generalize World.setCell _ _ _ = wst at *
            have H8 := HT8
            clear HT8
            go_wp2_with fail
            refine (rdInt_any l rb (.slice p l.length c) m4 p4 _ H8.out.1.rd (HV.out _ H8.out.1.bel) HL.out).mono ?_
            rintro e wq ⟨rfl, hr, hg⟩
            have hS := And.intro (H8.out.1.read hg hr) (box_grown hg HNE.out.2.2.1 H8.out.2)
            have hI := HI3.out.int
            clear H8 HI3
            have H8 := hid' hS
            have HI3 := hid' hI
            have HV_e5 := hid' (numV_in l m4)
            clear hS hI hr hg
            generalize Gen.nI l m4 p4 = m5 at *
            generalize Gen.oI l m4 p4 = p5 at *
            generalize numV l m4 = e5 at *
            go_wp2_with fail
            refine (rdText_any l rb (.slice p l.length c) m5 p5 _ H8.out.1.rd (HV.out _ H8.out.1.bel) HL.out).mono ?_
            rintro e wq ⟨rfl, hr, hg⟩
            have hS := And.intro (H8.out.1.read hg hr) (box_grown hg HNE.out.2.2.1 H8.out.2)
            have hI := HI3.out.text
            clear H8 HI3
            have H8 := hid' hS
            have HI3 := hid' hI
            have HV_e6 := hid' (txtV_len l m5)
            clear hS hI hr hg
            generalize Gen.nS l m5 p5 = m6 at *
            generalize Gen.oS l m5 p5 = p6 at *
            generalize txtV l m5 = e6 at *
            have s4 := bcells H8.out.2 4 _ rfl
            have f4 := frozen_of (o := 4) H8.out.2
            have s5 := bcells H8.out.2 5 _ rfl
            have f5 := frozen_of (o := 5) H8.out.2
            have hg := (grown_trans (grown_set wq b8 4 (.int .i64 e5)) (grown_set _ b8 5 (.string e6)))
            have hb := (heap_setCell_same _ b8 5 _ _ (.string e6) (heap_setCell_same _ b8 4 _ _ (.int .i64 e5) H8.out.2))
            have hS := H8.out.1.other hg HNE.out.1 HNE.out.2.1 HNE.out.2.2.1 HNE.out.2.2.2.1 HNE.out.2.2.2.2.1 HNE.out.2.2.2.2.2
            have hS2 := And.intro hS (show _ = some (Obj.cells #[.int .i64 e1, .int .i64 e2, .int .i64 e3, .int .i64 e4, .int .i64 e5, .string e6, .int .i64 0] 53 (0, 0)) from hb)
            have HT8 := hid' hS2
            clear hg hb hS hS2 H8
            go_upto_region 16 with (fail)
            clear s4 f4 s5 f5
            generalize World.setCell _ _ _ = wst at *
            have H8 := HT8
            clear HT8
            go_wp2_with fail
            refine (rdInt_any l rb (.slice p l.length c) m6 p6 _ H8.out.1.rd (HV.out _ H8.out.1.bel) HL.out).mono ?_
            rintro e wq ⟨rfl, hr, hg⟩
            have hS := And.intro (H8.out.1.read hg hr) (box_grown hg HNE.out.2.2.1 H8.out.2)
            have hI := HI3.out.int
            clear H8 HI3
            have H8 := hid' hS
            have HI3 := hid' hI
            have HV_e7 := hid' (numV_in l m6)
            clear hS hI hr hg
            generalize Gen.nI l m6 p6 = m7 at *
            generalize Gen.oI l m6 p6 = p7 at *
            generalize numV l m6 = e7 at *
            have s6 := bcells H8.out.2 6 _ rfl
            have f6 := frozen_of (o := 6) H8.out.2
            have hg := (grown_set wq b8 6 (.int .i64 e7))
            have hb := (heap_setCell_same _ b8 6 _ _ (.int .i64 e7) H8.out.2)
            have hS := H8.out.1.other hg HNE.out.1 HNE.out.2.1 HNE.out.2.2.1 HNE.out.2.2.2.1 HNE.out.2.2.2.2.1 HNE.out.2.2.2.2.2
            have hS2 := And.intro hS (show _ = some (Obj.cells #[.int .i64 e1, .int .i64 e2, .int .i64 e3, .int .i64 e4, .int .i64 e5, .string e6, .int .i64 e7] 53 (0, 0)) from hb)
            have HT8 := hid' hS2
            clear hg hb hS hS2 H8
            go_upto_region 17 with (fail)
            clear s6 f6
            generalize World.setCell _ _ _ = wst at *
            have H8 := HT8
            clear HT8
            have x0 := bcells H8.out.2 0 _ rfl
            have x1 := bcells H8.out.2 1 _ rfl
            have x2 := bcells H8.out.2 2 _ rfl
            have x3 := bcells H8.out.2 3 _ rfl
            have x4 := bcells H8.out.2 4 _ rfl
            have x5 := bcells H8.out.2 5 _ rfl
            have x6 := bcells H8.out.2 6 _ rfl
            have c1 := bcells H8.out.1.kc 2 _ rfl
            obtain ⟨pv, cv, rfl⟩ := row_form H8.out.1.is
            go_wp2_with (refine append_ix rfl _ _ rfl (cb + 1) (.slice pv li.length cv) li rfl H8.out.1.is ⟨e1, e2, e3, e4, e5, e6, e7⟩ rfl (by have := HN.out; omega) (lt_of_block H8.out.1.kc) (fun v' w' h1 h2 => ?_); refine halt' ?_)
            obtain ⟨pv', mv', cv', rfl⟩ := row_form3 h1
            have hk := (h2.block cb (lt_of_block H8.out.1.kc) (fun e => own_lt H8.out.1.is (by omega) e.symm)).trans H8.out.1.kc
            have y1 := bcells hk 2 _ rfl
            have y2 := frozen_of (o := 2) hk
            have HS9 := hid' (H8.out.1.addI h1 h2)
            have HF9 := hid' (show ∀ x ∈ li ++ [(⟨e1, e2, e3, e4, e5, e6, e7⟩ : Gen.Ix)], IxFits x from fun x hx => by
              rcases List.mem_append.1 hx with h | h
              · exact HF.out x h
              · rw [List.mem_singleton] at h
                subst h
                exact ⟨HV_e1.out, HV_e2.out, HV_e3.out, HV_e4.out, HV_e5.out, by have := HV_e6.out; show e6.size ≤ 2000000; omega, HV_e7.out⟩)
            have HN9 := hid' (show (li ++ [(⟨e1, e2, e3, e4, e5, e6, e7⟩ : Gen.Ix)]).length + n ≤ 16384 by rw [List.length_append]; have := HN.out; simp; omega)
            clear h1 h2 hk x0 x1 x2 x3 x4 x5 x6 c1 H8
            refine hid' ?_
            go_wp2_with fail
            go_roundw
            case rel => exact ⟨n, m7, p7, _, _, by go_num, HS9, HI3, HN9, HF9⟩
            case measure => simp [intOf]
          · have HEW := hid' (HI.out.endX (by rcases Nat.eq_zero_or_pos n with h | h; exact .inl h; refine .inr ?_; cases ok; rfl; exact absurd ⟨h, rfl⟩ ht))
            go_upto_region 11 with (fail)
            go_cut [59] (fun v wx => v = .bool false ∧ wx = wr)
            case first =>
              by_cases hn : 0 < n
              · obtain rfl : ok = false := by cases ok; rfl; exact absurd ⟨hn, rfl⟩ ht
                have g1 : decide ((0 : Int) < (n : Int)) = true := decide_eq_true (by omega)
                have g1n : decide (0 < n) = true := decide_eq_true hn
                clear ht hn
                go_wp2_with fail
                go_meet
                exact ⟨rfl, rfl⟩
              · have g1 : decide ((0 : Int) < (n : Int)) = false := decide_eq_false (by omega)
                have g1n : decide (0 < n) = false := decide_eq_false hn
                clear ht hn
                go_wp2_with fail
                go_meet
                exact ⟨rfl, rfl⟩
            case rest =>
              obtain ⟨rfl, rfl⟩ := hcut
              clear r2 ht HI HN
              have r1 := bcells HS.out.rd 1 _ rfl
              have r2 := bcells HS.out.rd 2 _ rfl
              cases ok with
              | false =>
                have HD := hid' (Gen.dec_bad HEW.out)
                have q0 := bcells HS.out.kr 0 _ rfl
                have q1 := bcells HS.out.kr 1 _ rfl
                have q2 := bcells HS.out.kr 2 _ rfl
                have fr0 := frozen_of (o := 0) HS.out.kr
                have fr1 := frozen_of (o := 1) HS.out.kr
                have fr2 := frozen_of (o := 2) HS.out.kr
                have hfin := HS.out.fin 0 (.slice none 0 0) (.slice none 0 0)
                have hbel := below_grown HS.out.bel hfin.2 (by have := HS.out.lt; omega) HS.out.bel.size
                have t0 := bcells hfin.1 0 _ rfl
                have t1 := bcells hfin.1 1 _ rfl
                have t2 := bcells hfin.1 2 _ rfl
                have r1' := (World.cell?_of_block (a := ⟨rb, 1, none⟩) (hfin.2.block rb (lt_of_block HS.out.rd) (fun e => by have := HS.out.lt; cases e; omega))).trans r1
                have hne1 : rb ≠ b2 := by have := HS.out.lt; omega
                have HF2 := hid' hbel
                clear hfin hbel
                go_upto_region 19 with (fail)
                go_region
                all_goals go_wp2_with fail
                refine bodyPost_ret (v := .tuple #[.agg #[.int .i64 0, .slice none 0 0, .slice none 0 0], .int .i64 (a : Int), .int .i64 172]) ?_ rfl ?_
                · simp [results, Tryz.results12, go_sem, t0, t1, t2]
                · refine ⟨_, by rw [HD.out], ?_, HF2.out.drew⟩
                  rw [HD.out]
                  exact cdAt0 _
              | true =>
                have HD := hid' (Gen.dec_end HEW.out)
                have q0 := bcells HS.out.kr 0 _ rfl
                have q1 := bcells HS.out.kr 1 _ rfl
                have q2 := bcells HS.out.kr 2 _ rfl
                have fr0 := frozen_of (o := 0) HS.out.kr
                have fr1 := frozen_of (o := 1) HS.out.kr
                have fr2 := frozen_of (o := 2) HS.out.kr
                by_cases ha : a < l.length
                · have g1 : decide ((a : Int) < (l.length : Int)) = true := decide_eq_true (by omega)
                  have g1n : decide (a < l.length) = true := decide_eq_true ha
                  rw [if_pos ha] at HD
                  clear ha
                  have hfin := HS.out.fin 0 (.slice none 0 0) (.slice none 0 0)
                  have hbel := below_grown HS.out.bel hfin.2 (by have := HS.out.lt; omega) HS.out.bel.size
                  have t0 := bcells hfin.1 0 _ rfl
                  have t1 := bcells hfin.1 1 _ rfl
                  have t2 := bcells hfin.1 2 _ rfl
                  have r1' := (World.cell?_of_block (a := ⟨rb, 1, none⟩) (hfin.2.block rb (lt_of_block HS.out.rd) (fun e => by have := HS.out.lt; cases e; omega))).trans r1
                  have hne1 : rb ≠ b2 := by have := HS.out.lt; omega
                  have HF2 := hid' hbel
                  clear hfin hbel
                  go_upto_region 19 with (fail)
                  go_region
                  all_goals go_wp2_with fail
                  refine bodyPost_ret (v := .tuple #[.agg #[.int .i64 0, .slice none 0 0, .slice none 0 0], .int .i64 (a : Int), .int .i64 172]) ?_ rfl ?_
                  · simp [results, Tryz.results12, go_sem, t0, t1, t2]
                  · refine ⟨_, by rw [HD.out], ?_, HF2.out.drew⟩
                    rw [HD.out]
                    exact cdAt0 _
                · have g1 : decide ((a : Int) < (l.length : Int)) = false := decide_eq_false (by omega)
                  have g1n : decide (a < l.length) = false := decide_eq_false ha
                  rw [if_neg ha] at HD
                  clear ha
                  have hcd : CdAt wc (.agg #[.int .i64 regs, vw, vi]) ⟨regs, lw, li⟩ := ⟨vw, vi, rfl, HS.out.ws.waits HFW.out, HS.out.is.ins HF.out, HNV.out⟩
                  have c0 := bcells HS.out.kc 0 _ rfl
                  have c1 := bcells HS.out.kc 1 _ rfl
                  have c2 := bcells HS.out.kc 2 _ rfl
                  obtain ⟨ri, hri⟩ : ∃ ri, Hid (Gen.right ⟨regs, lw, li⟩ = ri) := ⟨_, hid' rfl⟩
                  have HR := hid' (genRight_any _ ⟨regs, lw, li⟩ wc hcd)
                  rw [hri.out] at HR HD
                  clear hcd q0 q1 q2 fr0 fr1 fr2
                  obtain ⟨pw, nw, kw, rfl⟩ := row_form3 HS.out.ws
                  obtain ⟨pi, ni, ki, rfl⟩ := row_form3 HS.out.is
                  go_wp2_with fail
                  refine HR.out.mono ?_
                  rintro e wq ⟨rfl, b9⟩
                  have HS2 := hid' (HS.out.below b9)
                  clear b9 c0 c1 c2 r1 r2
                  have q0 := bcells HS2.out.kr 0 _ rfl
                  have q1 := bcells HS2.out.kr 1 _ rfl
                  have q2 := bcells HS2.out.kr 2 _ rfl
                  have fr0 := frozen_of (o := 0) HS2.out.kr
                  have fr1 := frozen_of (o := 1) HS2.out.kr
                  have fr2 := frozen_of (o := 2) HS2.out.kr
                  cases ri with
                  | false =>
                    have hfin := HS2.out.fin 0 (.slice none 0 0) (.slice none 0 0)
                    have hbel := below_grown HS2.out.bel hfin.2 (by have := HS2.out.lt; omega) HS2.out.bel.size
                    have t0 := bcells hfin.1 0 _ rfl
                    have t1 := bcells hfin.1 1 _ rfl
                    have t2 := bcells hfin.1 2 _ rfl
                    have HF2 := hid' hbel
                    clear hfin hbel
                    go_wp2_with fail
                    refine bodyPost_ret (v := .tuple #[.agg #[.int .i64 0, .slice none 0 0, .slice none 0 0], .int .i64 0, .int .i64 170]) ?_ rfl ?_
                    · simp [results, Tryz.results12, go_sem, t0, t1, t2]
                    · refine ⟨_, by rw [HD.out]; rfl, ?_, HF2.out⟩
                      rw [HD.out]
                      exact cdAt0 _
                  | true =>
                    have d0 := bcells HS2.out.kc 0 _ rfl
                    have d1 := bcells HS2.out.kc 1 _ rfl
                    have d2 := bcells HS2.out.kc 2 _ rfl
                    have hfin := HS2.out.fin regs (.slice pw nw kw) (.slice pi ni ki)
                    have hbel := below_grown HS2.out.bel hfin.2 (by have := HS2.out.lt; omega) HS2.out.bel.size
                    have t0 := bcells hfin.1 0 _ rfl
                    have t1 := bcells hfin.1 1 _ rfl
                    have t2 := bcells hfin.1 2 _ rfl
                    have hw2 := World.ownsRow.kept HS2.out.ws hfin.2 (.inr (own_lt HS2.out.ws (by have := HS2.out.lt; omega)))
                    have hi2 := World.ownsRow.kept HS2.out.is hfin.2 (.inr (own_lt HS2.out.is (by have := HS2.out.lt; omega)))
                    have HF2 := hid' (And.intro hbel (And.intro (WtRow.waits hw2 HFW.out) (IxRow.ins hi2 HF.out)))
                    clear hfin hbel hw2 hi2
                    go_wp2_with fail
                    refine bodyPost_ret (v := .tuple #[.agg #[.int .i64 regs, .slice pw nw kw, .slice pi ni ki], .int .i64 0, .int .i64 0]) ?_ rfl ?_
                    · simp [results, Tryz.results12, go_sem, t0, t1, t2]
                    · refine ⟨_, by rw [HD.out]; rfl, ?_, HF2.out.1⟩
                      rw [HD.out]
                      exact ⟨_, _, rfl, HF2.out.2.1, HF2.out.2.2, HNV.out⟩
end Go.Proofs.YtiejoapnljkjdaaGreatDoor
