/- Proved: slices.Sorted(maps.Keys(..)) at the table's own map: the layings by the kit's command (made plain), the contracts as its print has them. -/
import Derived.Test.YtmddaomchhigbaaGreatDoorOrcTake2
import Derived.Test.YtmddaomchhigbaaGreatDoorKeysLay
import Derived.Shelf.SlIter.Nil
import Derived.Shelf.SortM.Plain
import Derived.Shelf.SortM.SortNone
namespace Go.Proofs.YtmddaomchhigbaaGreatDoor
open Go.RowKit Go.Maps Go.Sort Go.Shelf
open Led Orc
set_option linter.unusedVariables false
set_option linter.unusedSimpArgs false
set_option maxRecDepth 100000
/-- slices.Sort's two contracts at this dump, at the fence that asks nothing. -/
theorem keySorts (m : Nat) : AnyZ.SortsIn Tryz.prog Tryz.sorted42_ren Fence.wide m :=
  ⟨fun blk off cap ss W hH hblk hsz => callsIn_wide.2 (AnyM.slices_Sort_string Tryz.sort59 blk off cap ss W hH hblk hsz),
   fun p cap W => callsIn_wide.2 (AnyM.slices_Sort_string_none Tryz.sort59 p cap W)⟩

/-- **maps.Keys[map[string]*usance/oracle.known,string,*usance/oracle.known], at whatever map, the nil one too:** a function value over ONE NEW BLOCK, which holds the map. -/
theorem mapsKeys_in (mb : Option Nat) (W : World) : CallsIn Fence.wide 5 Tryz.prog 43 #[.map mb] W fun e w' => e = .returned (.func (.func 60) #[] #[.pointer (some ⟨W.heap.size, 0, none⟩)]) ∧ w' = W.alloc (.cells #[.map mb] 76) :=
  AnyZ.keys_in Tryz.keys43 Fence.wide 5 trivial rfl mb W

set_option maxHeartbeats 1000000 in
/-- **slices.Sorted[string] AT WHAT maps.Keys[map[string]*usance/oracle.known,string,*usance/oracle.known] HANDED BACK FOR A MAP THAT IS NOT nil** ('w': the world AHEAD of maps.Keys' call): A NEW SLICE THAT HOLDS THE MAP's KEYS, SORTED; nil just where it has none; nothing that lay before has turned. -/
theorem sortedKeys_in {H : Type} (b nn : Nat) (D0 : DataW H) (R : Value → Option (DataW H × List MemPlace)) (w : World) (hown : w.ownsMap Tryz.prog 9 R b nn D0) (hmax : Maps.size D0 ≤ maxLen) (hbytes : Maps.size D0 * 16 ≤ 140737488355328) :
    CallsIn Fence.wide 5 Tryz.prog 42 #[.func (.func 60) #[] #[.pointer (some ⟨w.heap.size, 0, none⟩)]] (w.alloc (.cells #[.map (some b)] 76)) fun e w' => ∃ (v : Value) (ss : List (List UInt8)), e = .returned v ∧ ss.Perm (strKeys D0) ∧
      w'.ownsRow (w.alloc (.cells #[.map (some b)] 76)).heap.size 9 1 v ss.length ((ss.mergeSort (fun x y => decide (x ≤ y))).map encStr) ∧ (v = .slice none 0 0 ↔ ss = []) ∧ Below (w.alloc (.cells #[.map (some b)] 76)).heap.size (w.alloc (.cells #[.map (some b)] 76)) w' := by
  have hbl := hown.lt
  have hseq : SeqGives Fence.wide 2 Tryz.prog 60 #[.pointer (some ⟨w.heap.size, 0, none⟩)] encStr (fun ss => ss.Perm (strKeys D0)) (Maps.size D0) (w.alloc (.cells #[.map (some b)] 76)) :=
    AnyZ.keys_gives (ρ := Tryz.keys43_ren) { Tryz.keys43 with } Fence.wide _ trivial rfl (by omega) w.heap.size b nn D0 _ (by simp) (by simp) (by
      obtain ⟨es, clock, hb, Ft, hs, hD⟩ := hown
      exact ⟨es, clock, (Below.heap_alloc _ _ b hbl).trans hb, Ft, hs, hD⟩)
  exact AnyZ.sorted_in Tryz.sorted42 Fence.wide 5 trivial trivial trivial trivial rfl (by omega) (keySorts _) (enters_of Tryz.func59 (by kernel_rfl) rfl) 60 #[.pointer (some ⟨w.heap.size, 0, none⟩)] trivial (enters_of Tryz.func60 (by kernel_rfl) rfl) _ _ hmax hbytes _ hseq

set_option maxHeartbeats 1000000 in
/-- **.. AND FOR THE nil MAP: nil.** -/
theorem sortedKeys_nil (w : World) :
    CallsIn Fence.wide 5 Tryz.prog 42 #[.func (.func 60) #[] #[.pointer (some ⟨w.heap.size, 0, none⟩)]] (w.alloc (.cells #[.map none] 76)) fun e w' => ∃ (v : Value) (ss : List (List UInt8)), e = .returned v ∧ ss = [] ∧
      w'.ownsRow (w.alloc (.cells #[.map none] 76)).heap.size 9 1 v ss.length ((ss.mergeSort (fun x y => decide (x ≤ y))).map encStr) ∧ (v = .slice none 0 0 ↔ ss = []) ∧ Below (w.alloc (.cells #[.map none] 76)).heap.size (w.alloc (.cells #[.map none] 76)) w' := by
  have hseq : SeqGives Fence.wide 2 Tryz.prog 60 #[.pointer (some ⟨w.heap.size, 0, none⟩)] encStr (fun ss : List (List UInt8) => ss = []) 0 (w.alloc (.cells #[.map none] 76)) :=
    AnyZ.keys_gives_nil (ρ := Tryz.keys43_ren) { Tryz.keys43 with } Fence.wide _ trivial rfl w.heap.size _ (by simp) (by simp)
  exact AnyZ.sorted_in Tryz.sorted42 Fence.wide 5 trivial trivial trivial trivial rfl (by omega) (keySorts _) (enters_of Tryz.func59 (by kernel_rfl) rfl) 60 #[.pointer (some ⟨w.heap.size, 0, none⟩)] trivial (enters_of Tryz.func60 (by kernel_rfl) rfl) _ 0 (Nat.zero_le _) (by omega) _ hseq
/-- What comes back of Sorted(Keys): the names, in order. -/
theorem sortedNames_any {base tb mb : Nat} {Q : List Orc.Kb} {w : World} (h : TabAt base tb mb Q w) :
    ∃ D0 : DataW Unit, Maps.IsMap D0 ∧ Maps.size D0 = Q.length ∧ (∀ s : ByteArray, s.size ≤ maxLen → has D0 (nameK s) = (Orc.find Q s).isSome) ∧
    Calls Tryz.prog 42 #[.func (.func 60) #[] #[.pointer (some ⟨w.heap.size, 0, none⟩)]] (w.alloc (.cells #[.map (some mb)] 76)) fun e w' => ∃ (v : Value) (ss : List (List UInt8)), e = .returned v ∧ ss.Perm (strKeys D0) ∧
      w'.ownsRow (w.alloc (.cells #[.map (some mb)] 76)).heap.size 9 1 v ss.length ((ss.mergeSort (fun x y => decide (x ≤ y))).map encStr) ∧ (v = .slice none 0 0 ↔ ss = []) ∧ Below (w.alloc (.cells #[.map (some mb)] 76)).heap.size (w.alloc (.cells #[.map (some mb)] 76)) w' := by
  obtain ⟨D, hD, hsz, hl⟩ := h.map
  have hroom := h.room
  have hm : (64 : Nat) ≤ maxLen := by decide
  exact ⟨D, hD.isMap, hsz, fun s hs => (hl s hs).1, callsIn_wide.1 (sortedKeys_in mb Q.length D ptrElem w hD (by omega) (by omega))⟩
/-- The feeds' names, as bytes. -/
def namesOf (Q : List Orc.Kb) : List (List UInt8) := Q.map fun q => q.kn.name.data.toList
theorem names_perm {H : Type} {R : Value → Option (DataW H × List MemPlace)} {w : World} {mb n : Nat} {D : DataW H} {Q : List Orc.Kb} (hown : w.ownsMap Tryz.prog 9 R mb n D) (hn : Q.Pairwise fun a b => a.kn.name ≠ b.kn.name) (hf : ∀ q ∈ Q, q.kn.name.size ≤ maxLen)
    (hl : ∀ s : ByteArray, s.size ≤ maxLen → has D (nameK s) = (Orc.find Q s).isSome) : (namesOf Q).Perm (strKeys D) := by
  refine Collected.perm (left := fun _ => false) ⟨?_, fun x => ?_⟩ hown (string_keyed Tryz.underlying9) Tryz.underlying9 (fun _ => rfl)
  · refine List.pairwise_map.2 (hn.imp fun {a b} hne e => hne (ba_ext e))
  · constructor
    · intro hx
      obtain ⟨q, hq, rfl⟩ := List.mem_map.1 hx
      refine ⟨?_, rfl⟩
      have := hl q.kn.name (hf q hq)
      unfold nameK at this
      rw [this]
      unfold Orc.find
      rw [List.find?_isSome]
      exact ⟨q, hq, by simp⟩
    · rintro ⟨hx, _⟩
      have hlen : x.length ≤ maxLen := by
        obtain ⟨es, rfl, hko⟩ := hown.keysOf
        rw [has_eq, List.any_eq_true] at hx
        obtain ⟨p, hp, hs⟩ := hx
        obtain ⟨v, hv⟩ := hko p hp
        obtain ⟨y, _, hy, hyl⟩ := Maps.keyOf_str Tryz.underlying9 hv
        rw [hy] at hs
        obtain rfl : y = x := by simpa [Lit.sameKey] using hs
        exact hyl
      have h2 := hl ⟨x.toArray⟩ (by show x.toArray.size ≤ _; simpa using hlen)
      unfold nameK at h2
      simp only at h2
      rw [hx] at h2
      obtain ⟨q, hq⟩ := Option.isSome_iff_exists.1 h2.symm
      obtain ⟨hm, hnm⟩ := Orc.find_mem hq
      exact List.mem_map.2 ⟨q, hm, by rw [hnm]⟩
end Go.Proofs.YtmddaomchhigbaaGreatDoor
