/- Proved: lemmas and contracts of the functions that the law reaches, part 3 of 36: AnyHead. Conditions: as each states. -/
import Derived.StillTail
import Derived.TacticsIn
import Derived.OrdersIn
namespace Go.Proofs.YtanlmbbalamgkaaGreatDoor
set_option linter.unusedVariables false
set_option linter.unusedSimpArgs false
section
section
variable {F:Fence}{n:Nat}{P:Program}{ops:Array Oper}{Q:Exit→Act→World→Prop}{md:Region.Mode}
theorem zwo {m:Nat}{listed:Array Bool}(hsz:listed.size=ops.size)(hlow:∀ i,i<m→∃ o,ops[i]? = some o∧∀ e∈o.after,Region.binds md e=true→e.on<i):
  ∀ i,i<m→listed.getD i false=false→∃ j,j∈Region.ready md ops listed:=by
 intro i
 induction i using Nat.strongRecOn with
 |_ i ih=>
  intro hi hu
  obtain⟨o,ho,hl⟩:=hlow i hi
  by_cases h:∀ e∈o.after,Region.binds md e=true→listed.getD e.on false=true
  ·have:i<ops.size:=(Array.getElem?_eq_some_iff.1 ho).1
   exact⟨i,mem_ready.2 ⟨getD_in (by omega) hu,o,ho,h⟩⟩
  ·simp only[Classical.not_forall] at h
   obtain⟨e,he,hb,hne⟩:=h
   exact ih e.on (hl e he hb) (by have:=hl e he hb; omega) (by simpa using hne)
end
end
end Go.Proofs.YtanlmbbalamgkaaGreatDoor
