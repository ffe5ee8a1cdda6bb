/- Proved: lemmas and contracts of the functions that the law reaches, part 27 of 36: VmMach, VmReckon. Conditions: as each states. -/
import Derived.Test.YtanlmbbalamgkaaGreatDoorVmi12
import Derived.Test.YtanlmbbalamgkaaGreatDoorVmi20
import Derived.Test.YtanlmbbalamgkaaGreatDoorVmi21
namespace Go.Proofs.YtanlmbbalamgkaaGreatDoor
set_option linter.unusedVariables false
set_option linter.unusedSimpArgs false
section
open Go.RowKit
open Gen
open Rw
set_option maxRecDepth 100000
def zla (x:Int × Int):List Value:=[.int .i64 x.1,.int .i64 x.2]
def zms (day:Int)(x:ByteArray × Int):List Value:=[.int .i64 day,.string x.1,.int .i64 x.2]
def HoldRow (base:Nat)(w:World)(v:Value)(l:List (Int × Int)):Prop:=w.ownsRow base 52 2 v l.length (l.flatMap zla)
def TranRow (base:Nat)(w:World)(v:Value)(day:Int)(l:List (ByteArray × Int)):Prop:=w.ownsRow base 59 3 v l.length (l.flatMap (zms day))
theorem zzk:(Tryz.prog.info? 52).map (fun i=>(i.zero,i.size,i.bytes))=some (some (.agg #[.int .i64 0,.int .i64 0]),2,16):=by kernel_rfl
theorem zzj:(Tryz.prog.info? 59).map (fun i=>(i.zero,i.size,i.bytes))=some (some (.agg #[.int .i64 0,.string ⟨#[]⟩,.int .i64 0]),3,32):=by kernel_rfl
theorem zya {w:World}{ops:Array Oper}{o:Oper}{a:Act}{K:Act→World→Prop}{Q:Exit→Act→World→Prop}{E:Prop}(hgd:o.guard=none)(s x:Operand)
  (ho:o.op=.call { callee:=.builtin .append,args:=#[s,x],argTypes:=#[39,39] })
  (base:Nat) (v:Value) (L:List (Int × Int)) (hs:a.eval s=v) (hown:HoldRow base w v L) (y:Int × Int) (hx:a.eval x=.slice (some ⟨w.heap.size,0,none⟩) 1 1) (hbound:L.length+1≤1000000) (hbase:base≤w.heap.size)
  (h:∀ v' w',HoldRow base w' v' (L++[y])→w.grownBy w' v.ownBlock→K (a.put o.dst v') w'):
  if Region.wanted o (yielded ops a.tmps)=true then Oper.wp Tryz.prog o a (w.alloc (.cells #[.int .i64 y.1,.int .i64 y.2] 52)) K Q else E:=by
 have hw:Region.wanted o (yielded ops a.tmps)=true:=by simp[Region.wanted,hgd]
 rw[if_pos hw]
 obtain⟨i,hi,hz,hsz,hby⟩:=info_split zzk
 refine wp_append_own _ s x 39 ho base 52 i _ 2 16 Tryz.underlying39 hi hz hsz hby rfl (by decide) v L.length _ hs (World.ownsRow.alloc hown _) ⟨w.heap.size,0,none⟩ 1 1 (zla y) hx rfl
  (fun j u hj=>?_) (fun u hu=>?_) (by unfold maxLen; omega) (by omega) (by simp; omega) (fun v' w' h1 h2 _=>h v' w' ?_ (grown_trans (grown_of_below ((Below.refl _ _).alloc (Nat.le_refl _) _) _) h2))
 ·rw[add_gen,World.cell?_alloc_new,Nat.zero_add,←hj]
  simp[zla]
 ·simp only[zla,List.mem_cons,List.not_mem_nil,or_false] at hu
  rcases hu with rfl|rfl<;>rfl
 ·show World.ownsRow w' base _ 2 v' (L++[y]).length ((L++[y]).flatMap zla)
  rw[List.length_append,List.flatMap_append]
  simpa using h1
theorem zxz {w:World}{ops:Array Oper}{o:Oper}{a:Act}{K:Act→World→Prop}{Q:Exit→Act→World→Prop}{E:Prop}(hgd:o.guard=none)(s x:Operand)
  (ho:o.op=.call { callee:=.builtin .append,args:=#[s,x],argTypes:=#[40,40] })
  (base:Nat) (v:Value) (day:Int) (L:List (ByteArray × Int)) (hs:a.eval s=v) (hown:TranRow base w v day L) (y:ByteArray × Int) (hx:a.eval x=.slice (some ⟨w.heap.size,0,none⟩) 1 1) (hbound:L.length+1≤1000000) (hbase:base≤w.heap.size)
  (h:∀ v' w',TranRow base w' v' day (L++[y])→w.grownBy w' v.ownBlock→K (a.put o.dst v') w'):
  if Region.wanted o (yielded ops a.tmps)=true then Oper.wp Tryz.prog o a (w.alloc (.cells #[.int .i64 day,.string y.1,.int .i64 y.2] 59)) K Q else E:=by
 have hw:Region.wanted o (yielded ops a.tmps)=true:=by simp[Region.wanted,hgd]
 rw[if_pos hw]
 obtain⟨i,hi,hz,hsz,hby⟩:=info_split zzj
 refine wp_append_own _ s x 40 ho base 59 i _ 3 32 Tryz.underlying40 hi hz hsz hby rfl (by decide) v L.length _ hs (World.ownsRow.alloc hown _) ⟨w.heap.size,0,none⟩ 1 1 (zms day y) hx rfl
  (fun j u hj=>?_) (fun u hu=>?_) (by unfold maxLen; omega) (by omega) (by simp; omega) (fun v' w' h1 h2 _=>h v' w' ?_ (grown_trans (grown_of_below ((Below.refl _ _).alloc (Nat.le_refl _) _) _) h2))
 ·rw[add_gen,World.cell?_alloc_new,Nat.zero_add,←hj]
  simp[zms]
 ·simp only[zms,List.mem_cons,List.not_mem_nil,or_false] at hu
  rcases hu with rfl|rfl|rfl<;>rfl
 ·show World.ownsRow w' base _ 3 v' (L++[y]).length ((L++[y]).flatMap (zms day))
  rw[List.length_append,List.flatMap_append]
  simpa using h1
def zkq (r:List Int):Array Value:=(r.map (Value.int .i64)).toArray
def RegBox (W:World)(rb:Nat)(r:List Int):Prop:=r.length=256∧W.heap[rb]? = some (.cells (zkq r) 115 (0,0))
theorem RegBox.cell {W:World}{rb:Nat}{r:List Int}(h:RegBox W rb r){i:Int}(h0:0≤i)(h1:i<256):W.cell? ⟨rb,i.toNat,none⟩=some (.int .i64 (Vm.reg r i)):=by
 refine zaa h.2 _ _ ?_
 have hl:=h.1
 have hi:i.toNat<r.length:=by omega
 unfold zkq Vm.reg
 rw[List.getElem?_toArray,List.getElem?_map,List.getElem?_eq_getElem hi]
 rfl
theorem RegBox.set {W:World}{rb:Nat}{r:List Int}(h:RegBox W rb r)(i v:Int):RegBox (W.setCell ⟨rb,i.toNat,none⟩ (.int .i64 v)) rb (Vm.setReg r i v):=by
 have hl:=h.1
 refine⟨by unfold Vm.setReg; rw[List.length_set]; exact hl,?_⟩
 refine(heap_setCell_same W rb i.toNat _ _ (.int .i64 v) h.2).trans ?_
 unfold zkq Vm.setReg
 congr 2
 rw[List.map_set]
 simp
def MBox (W:World)(mb:Nat)(c:Gen.Cd)(vw vi:Value)(day:Int)(vf vh vo:Value)(steps:Int)(over:Bool):Prop:=
 W.heap[mb]? = some (.cells #[.int .i64 c.regs,vw,vi,.int .i64 day,vf,vh,vo,.int .i64 steps,.bool over] 82 (0,0))
structure Mach (W0:World)(mb:Nat)(c:Gen.Cd)(day:Int)(vw vi vf:Value)(st:Vm.St)(vh vo:Value)(W:World):Prop where
 bel:Below mb W0 W
 box:MBox W mb c vw vi day vf vh vo (st.steps:Int) st.over
 hs:HoldRow (mb+1) W vh st.holds
 ts:TranRow (mb+1) W vo day st.out
structure KpM (mb:Nat)(W W':World):Prop where
 bel:Below mb W W'
 oth:∀(k:Nat) (cur:Array Value) (t:TypeId),k≠mb→t≠52→t≠59→W.heap[k]? = some (.cells cur t (0,0))→W'.heap[k]? = W.heap[k]?
theorem KpM.trans {mb:Nat}{A B C:World}(h:KpM mb A B)(k:KpM mb B C):KpM mb A C:=
 ⟨h.bel.trans k.bel,fun j cur t hj h1 h2 e=>(k.oth j cur t hj h1 h2 ((h.oth j cur t hj h1 h2 e).trans e)).trans (h.oth j cur t hj h1 h2 e)⟩
theorem KpM.below {mb:Nat}{W W':World}(h:Below W.heap.size W W')(hm:mb≤W.heap.size):KpM mb W W':=⟨h.mono hm,fun k cur t _ _ _ e=>h.block k (zac e)⟩
theorem KpM.box {mb:Nat}{W W':World}(h:KpM mb W W'){k:Nat}{cur:Array Value}{t:TypeId}(hk:k≠mb)(h1:t≠52)(h2:t≠59)(e:W.heap[k]? = some (.cells cur t (0,0))):W'.heap[k]? = some (.cells cur t (0,0)):=(h.oth k cur t hk h1 h2 e).trans e
theorem KpM.mset {mb:Nat}(W:World)(o:Nat)(v:Value):KpM mb W (W.setCell ⟨mb,o,none⟩ v):=
 ⟨(Below.refl mb W).setCell (p:=⟨mb,o,none⟩) (Nat.le_refl _) v,fun k cur t hk _ _ _=>Below.heap_setCell W ⟨mb,o,none⟩ v k hk⟩
theorem zbz {W:World}{base z n:Nat}{t:TypeId}{v:Value}{xs:List Value}(h:W.ownsRow base t z v n xs){k:Nat}(hk:v.ownBlock=some k):base≤k∧∃ cur,W.heap[k]? = some (.cells cur t (0,0)):=by
 rcases h.2 with⟨rfl,_⟩|⟨g,cap,cur,rfl,hb,hc,_⟩
 ·cases hk
 ·obtain rfl:g=k:=Option.some.inj hk
  exact⟨hb,cur,hc⟩
theorem KpM.row {mb:Nat}{W W':World}{v:Value}{z n:Nat}{t:TypeId}{xs:List Value}(h:W.ownsRow (mb+1) t z v n xs)(ht:t=52∨t=59)(g:W.grownBy W' v.ownBlock)(hm:mb<W.heap.size):KpM mb W W':=by
 have hno:∀ k,v.ownBlock=some k→mb<k∧∃ cur,W.heap[k]? = some (.cells cur t (0,0)):=fun k hk=>zbz h hk
 refine⟨⟨g.os,g.tape,g.output,g.size,fun k hk=>?_⟩,fun k cur t' _ h1 h2 e=>?_⟩
 ·exact g.block k (Nat.lt_trans hk hm) fun e=>by have:=(hno k e.symm).1; omega
 ·refine g.block k (zac e) fun e2=>?_
  obtain⟨-,cur2,h5⟩:=hno k e2.symm
  have e6:=h5.symm.trans e
  simp only[Option.some.injEq,Obj.cells.injEq] at e6
  rcases ht with rfl|rfl
  ·exact h1 e6.2.1.symm
  ·exact h2 e6.2.1.symm
theorem Mach.lt {W0:World}{mb:Nat}{c:Gen.Cd}{day:Int}{vw vi vf:Value}{st:Vm.St}{vh vo:Value}{W:World}(h:Mach W0 mb c day vw vi vf st vh vo W):mb<W.heap.size:=zac h.box
theorem Mach.below {W0:World}{mb:Nat}{c:Gen.Cd}{day:Int}{vw vi vf:Value}{st:Vm.St}{vh vo:Value}{W W':World}(h:Mach W0 mb c day vw vi vf st vh vo W)(b:Below W.heap.size W W'):Mach W0 mb c day vw vi vf st vh vo W':=
 ⟨h.bel.trans (b.mono (Nat.le_of_lt h.lt)),zad b h.box,World.ownsRow.kept h.hs (grown_of_below b none) (by
  rcases hv:vh.ownBlock with _|k
  ·exact .inl rfl
  ·exact .inr (by simp)),World.ownsRow.kept h.ts (grown_of_below b none) (by
  rcases hv:vo.ownBlock with _|k
  ·exact .inl rfl
  ·exact .inr (by simp))⟩
theorem Mach.other {W0:World}{mb:Nat}{c:Gen.Cd}{day:Int}{vw vi vf:Value}{st:Vm.St}{vh vo:Value}{W:World}(h:Mach W0 mb c day vw vi vf st vh vo W){k:Nat}{cur:Array Value}{t:TypeId}(hk:mb<k)(e:W.heap[k]? = some (.cells cur t (0,0)))(h1:t≠52)(h2:t≠59)(o:Nat)(v:Value):
  Mach W0 mb c day vw vi vf st vh vo (W.setCell ⟨k,o,none⟩ v):=by
 have gs:=grown_set W k o v
 refine⟨below_grown h.bel gs (by omega) (Nat.le_of_lt h.lt),box_grown gs (by omega) h.box,World.ownsRow.kept h.hs gs (.inr fun e2=>?_),World.ownsRow.kept h.ts gs (.inr fun e2=>?_)⟩
 ·obtain⟨-,cur2,h5⟩:=zbz h.hs e2
  have e6:=h5.symm.trans e
  simp only[Option.some.injEq,Obj.cells.injEq] at e6
  exact h1 e6.2.1.symm
 ·obtain⟨-,cur2,h5⟩:=zbz h.ts e2
  have e6:=h5.symm.trans e
  simp only[Option.some.injEq,Obj.cells.injEq] at e6
  exact h2 e6.2.1.symm
theorem Mach.rows_set {W:World}{mb:Nat}{t:TypeId}{z n:Nat}{v:Value}{xs:List Value}(h:W.ownsRow (mb+1) t z v n xs)(o:Nat)(u:Value):(W.setCell ⟨mb,o,none⟩ u).ownsRow (mb+1) t z v n xs:=
 World.ownsRow.kept h (grown_set W mb o u) (.inr (zes h (Nat.lt_succ_self _)))
theorem Mach.steps {W0:World}{mb:Nat}{c:Gen.Cd}{day:Int}{vw vi vf:Value}{st:Vm.St}{vh vo:Value}{W:World}(h:Mach W0 mb c day vw vi vf st vh vo W):
  Mach W0 mb c day vw vi vf ⟨st.holds,st.out,st.steps+1,st.over⟩ vh vo (W.setCell ⟨mb,7,none⟩ (.int .i64 ((st.steps:Int)+1))):=
 ⟨h.bel.trans (KpM.mset W 7 _).bel,heap_setCell_same W mb 7 _ _ _ h.box,Mach.rows_set h.hs 7 _,Mach.rows_set h.ts 7 _⟩
theorem Mach.setOver {W0:World}{mb:Nat}{c:Gen.Cd}{day:Int}{vw vi vf:Value}{st:Vm.St}{vh vo:Value}{W:World}(h:Mach W0 mb c day vw vi vf st vh vo W)(o:Bool):
  Mach W0 mb c day vw vi vf ⟨st.holds,st.out,st.steps,o⟩ vh vo (W.setCell ⟨mb,8,none⟩ (.bool o)):=
 ⟨h.bel.trans (KpM.mset W 8 _).bel,heap_setCell_same W mb 8 _ _ _ h.box,Mach.rows_set h.hs 8 _,Mach.rows_set h.ts 8 _⟩
theorem Mach.pushHold {W0:World}{mb:Nat}{c:Gen.Cd}{day:Int}{vw vi vf:Value}{st:Vm.St}{vh vo v':Value}{W W':World}(h:Mach W0 mb c day vw vi vf st vh vo W){y:Int × Int}
  (row:HoldRow (mb+1) W' v' (st.holds++[y])) (g:W.grownBy W' vh.ownBlock):Mach W0 mb c day vw vi vf ⟨st.holds++[y],st.out,st.steps,st.over⟩ v' vo (W'.setCell ⟨mb,5,none⟩ v'):=by
 have K:=KpM.row h.hs (.inl rfl) g h.lt
 have hb:MBox W' mb c vw vi day vf vh vo st.steps st.over:=(g.block mb h.lt fun e=>zes h.hs (Nat.lt_succ_self _) e.symm).trans h.box
 have ht:=World.ownsRow.kept h.ts g (zor h.ts h.hs (by decide))
 exact⟨(h.bel.trans K.bel).trans (KpM.mset W' 5 _).bel,heap_setCell_same W' mb 5 _ _ _ hb,Mach.rows_set row 5 _,Mach.rows_set ht 5 _⟩
theorem Mach.pushTran {W0:World}{mb:Nat}{c:Gen.Cd}{day:Int}{vw vi vf:Value}{st:Vm.St}{vh vo v':Value}{W W':World}(h:Mach W0 mb c day vw vi vf st vh vo W){y:ByteArray × Int}
  (row:TranRow (mb+1) W' v' day (st.out++[y])) (g:W.grownBy W' vo.ownBlock):Mach W0 mb c day vw vi vf ⟨st.holds,st.out++[y],st.steps,st.over⟩ vh v' (W'.setCell ⟨mb,6,none⟩ v'):=by
 have K:=KpM.row h.ts (.inr rfl) g h.lt
 have hb:MBox W' mb c vw vi day vf vh vo st.steps st.over:=(g.block mb h.lt fun e=>zes h.ts (Nat.lt_succ_self _) e.symm).trans h.box
 have ht:=World.ownsRow.kept h.hs g (zor h.hs h.ts (by decide))
 exact⟨(h.bel.trans K.bel).trans (KpM.mset W' 6 _).bel,heap_setCell_same W' mb 6 _ _ _ hb,Mach.rows_set ht 6 _,Mach.rows_set row 6 _⟩
end
section
open Go.RowKit
set_option maxRecDepth 100000
theorem zgh (b:Bool)(w:World):Calls Tryz.prog 119 #[.bool b] w (Ret (.int .i64 (Vm.truth b)) w):=by
 cases b with
 |true=>
  go_enter Tryz.func119,Tryz.ntmps119
  go_wp2_with fail
  go_ret
  exact⟨rfl,rfl⟩
 |false=>
  go_enter Tryz.func119,Tryz.ntmps119
  go_wp2_with fail
  go_ret
  exact⟨rfl,rfl⟩
theorem zff (n:Int)(w:World):Calls Tryz.prog 29 #[.int .i64 n] w (Ret (.bool (decide (0≤n) && decide (n≤73048))) w):=by
 by_cases h1:0≤n
 ·have g1:decide (0≤n)=true:=decide_eq_true h1
  have e:=hid' (show(decide (0≤n) && decide (n≤73048))=decide (n≤73048) by rw[g1,Bool.true_and])
  rw[e.out]
  clear h1
  go_enter Tryz.func29,Tryz.ntmps29
  go_wp2_with fail
  go_ret
  exact⟨rfl,rfl⟩
 ·have g1:decide (0≤n)=false:=decide_eq_false h1
  have e:=hid' (show(decide (0≤n) && decide (n≤73048))=false by rw[g1,Bool.false_and])
  rw[e.out]
  clear h1
  go_enter Tryz.func29,Tryz.ntmps29
  go_wp2_with fail
  go_ret
  exact⟨rfl,rfl⟩
theorem znh (s:ByteArray)(w:World)(hs:s.size≤9223372036854775807):Calls Tryz.prog 33 #[.string s] w (zaj (.bool (Led.isName s)) w):=by
 have HT:=hid' (zqq s w hs)
 go_enter Tryz.func33,Tryz.ntmps33
 go_wp2_with fail
 refine HT.out.mono ?_
 rintro e w1 ⟨rfl,b1⟩
 go_wp2_with fail
 go_ret
 exact⟨rfl,b1⟩
theorem zdh {v:Value}{w w':World}{e:Ending}(h:Ret v w e w'):zaj v w e w':=⟨h.1,by rw[h.2]; exact Below.refl _ _⟩
theorem zpa {v:Value}{w w':World}{e:Ending}(h:Drew v w e w'):zaj v w e w':=by
 obtain⟨h1,n,h2⟩:=h
 exact⟨h1,by rw[h2]; exact Below.drewn (Below.refl _ _) n⟩
theorem qcl (b c:Int)(w:World):Calls Tryz.prog 64 #[.int .i64 4,.int .i64 b,.int .i64 c] w (zaj (.int .i64 (Num.neg b)) w):=by
 have HC:=hid' (fun W=>zpw b W)
 generalize Num.neg b=R at *
 go_enter Tryz.func64,Tryz.ntmps64
 go_wp2_with (first|(go_at_call 63; refine(HC.out _).mono ?_; intro e w' hg; have hg:=zdh hg; obtain⟨rfl,hb1⟩:=hg))
 go_ret
 exact⟨rfl,hb1⟩
theorem zyp (b c:Int)(w:World):Calls Tryz.prog 64 #[.int .i64 12,.int .i64 b,.int .i64 c] w (zaj (.int .i64 (Vm.truth (decide (b=0)))) w):=by
 have HC:=hid' (fun W=>zgh (decide (b=0)) W)
 by_cases hb:b=0
 ·have e:=hid' (show decide (b=0)=true from decide_eq_true hb)
  rw[e.out] at HC ⊢
  have e2:(b == 0)=true:=by rw[hb]; exact beq_self_eq_true _
  clear hb
  generalize Vm.truth true=R at *
  go_enter Tryz.func64,Tryz.ntmps64
  go_wp2_with (first|(go_at_call 119; refine(HC.out _).mono ?_; intro e w' hg; have hg:=zdh hg; obtain⟨rfl,hb1⟩:=hg))
  go_ret
  exact⟨rfl,hb1⟩
 ·have e:=hid' (show decide (b=0)=false from decide_eq_false hb)
  rw[e.out] at HC ⊢
  have e2:(b == 0)=false:=by rw[beq_eq_false_iff_ne]; exact hb
  clear hb
  generalize Vm.truth false=R at *
  go_enter Tryz.func64,Tryz.ntmps64
  go_wp2_with (first|(go_at_call 119; refine(HC.out _).mono ?_; intro e w' hg; have hg:=zdh hg; obtain⟨rfl,hb1⟩:=hg))
  go_ret
  exact⟨rfl,hb1⟩
theorem qck (b c:Int)(w:World):Calls Tryz.prog 64 #[.int .i64 5,.int .i64 b,.int .i64 c] w (zaj (.int .i64 (Num.add b c)) w):=by
 have HC:=hid' (fun W=>zwi b c W)
 generalize Num.add b c=R at *
 go_enter Tryz.func64,Tryz.ntmps64
 go_wp2_with (first|(go_at_call 120; refine(HC.out _).mono ?_; intro e w' hg; have hg:=zdh hg; obtain⟨rfl,hb1⟩:=hg))
 go_ret
 exact⟨rfl,hb1⟩
theorem qcj (b c:Int)(w:World):Calls Tryz.prog 64 #[.int .i64 6,.int .i64 b,.int .i64 c] w (zaj (.int .i64 (Num.sub b c)) w):=by
 have HC:=hid' (fun W=>zvq b c W)
 generalize Num.sub b c=R at *
 go_enter Tryz.func64,Tryz.ntmps64
 go_wp2_with (first|(go_at_call 121; refine(HC.out _).mono ?_; intro e w' hg; have hg:=zdh hg; obtain⟨rfl,hb1⟩:=hg))
 go_ret
 exact⟨rfl,hb1⟩
theorem qci (b c:Int)(w:World):Calls Tryz.prog 64 #[.int .i64 7,.int .i64 b,.int .i64 c] w (zaj (.int .i64 (Num.mul b c)) w):=by
 have HC:=hid' (fun W=>zpx b c W)
 generalize Num.mul b c=R at *
 go_enter Tryz.func64,Tryz.ntmps64
 go_wp2_with (first|(go_at_call 62; refine(HC.out _).mono ?_; intro e w' hg; have hg:=zpa hg; obtain⟨rfl,hb1⟩:=hg))
 go_ret
 exact⟨rfl,hb1⟩
theorem qch (b c:Int)(w:World):Calls Tryz.prog 64 #[.int .i64 8,.int .i64 b,.int .i64 c] w (zaj (.int .i64 (Num.div b c)) w):=by
 have HC:=hid' (fun W=>zqd b c W)
 generalize Num.div b c=R at *
 go_enter Tryz.func64,Tryz.ntmps64
 go_wp2_with (first|(go_at_call 122; refine(HC.out _).mono ?_; intro e w' hg; have hg:=zpa hg; obtain⟨rfl,hb1⟩:=hg))
 go_ret
 exact⟨rfl,hb1⟩
theorem qcg (b c:Int)(w:World):Calls Tryz.prog 64 #[.int .i64 9,.int .i64 b,.int .i64 c] w (zaj (.int .i64 (Vm.truth (decide (b<c)))) w):=by
 have HC:=hid' (fun W=>zgh (decide (b<c)) W)
 go_enter Tryz.func64,Tryz.ntmps64
 go_wp2_with (first|(go_at_call 119; refine(HC.out _).mono ?_; intro e w' hg; have hg:=zdh hg; obtain⟨rfl,hb1⟩:=hg))
 go_ret
 exact⟨rfl,hb1⟩
theorem zyo (b c:Int)(w:World):Calls Tryz.prog 64 #[.int .i64 13,.int .i64 b,.int .i64 c] w (zaj (.int .i64 (Vm.truth (decide (b<c)))) w):=by
 have HC:=hid' (fun W=>zgh (decide (b<c)) W)
 go_enter Tryz.func64,Tryz.ntmps64
 go_wp2_with (first|(go_at_call 119; refine(HC.out _).mono ?_; intro e w' hg; have hg:=zdh hg; obtain⟨rfl,hb1⟩:=hg))
 go_ret
 exact⟨rfl,hb1⟩
theorem zyr (b c:Int)(w:World):Calls Tryz.prog 64 #[.int .i64 10,.int .i64 b,.int .i64 c] w (zaj (.int .i64 (Vm.truth (decide (b≤c)))) w):=by
 have HC:=hid' (fun W=>zgh (decide (b≤c)) W)
 go_enter Tryz.func64,Tryz.ntmps64
 go_wp2_with (first|(go_at_call 119; refine(HC.out _).mono ?_; intro e w' hg; have hg:=zdh hg; obtain⟨rfl,hb1⟩:=hg))
 go_ret
 exact⟨rfl,hb1⟩
theorem zyq (b c:Int)(w:World):Calls Tryz.prog 64 #[.int .i64 11,.int .i64 b,.int .i64 c] w (zaj (.int .i64 (Vm.truth (decide (b=c)))) w):=by
 have HC:=hid' (fun W=>zgh (decide (b=c)) W)
 by_cases hb:b=c
 ·have e:=hid' (show decide (b=c)=true from decide_eq_true hb)
  rw[e.out] at HC ⊢
  have e2:(b == c)=true:=by rw[hb]; exact beq_self_eq_true _
  clear hb
  generalize Vm.truth true=R at *
  go_enter Tryz.func64,Tryz.ntmps64
  go_wp2_with (first|(go_at_call 119; refine(HC.out _).mono ?_; intro e w' hg; have hg:=zdh hg; obtain⟨rfl,hb1⟩:=hg))
  go_ret
  exact⟨rfl,hb1⟩
 ·have e:=hid' (show decide (b=c)=false from decide_eq_false hb)
  rw[e.out] at HC ⊢
  have e2:(b == c)=false:=by rw[beq_eq_false_iff_ne]; exact hb
  clear hb
  generalize Vm.truth false=R at *
  go_enter Tryz.func64,Tryz.ntmps64
  go_wp2_with (first|(go_at_call 119; refine(HC.out _).mono ?_; intro e w' hg; have hg:=zdh hg; obtain⟨rfl,hb1⟩:=hg))
  go_ret
  exact⟨rfl,hb1⟩
theorem zyn (b c:Int)(w:World):Calls Tryz.prog 64 #[.int .i64 14,.int .i64 b,.int .i64 c] w (zaj (.int .i64 (Dt.plus b (Num.whole c))) w):=by
 have HC:=hid' (fun W=>zml b (Num.whole c) W)
 have HW:=hid' (zja c w)
 generalize Num.whole c=q at *
 generalize Dt.plus b q=R at *
 go_enter Tryz.func64,Tryz.ntmps64
 go_wp2_with (first|(go_at_call 59; refine(HC.out _).mono ?_; intro e w' hg; have hg:=zdh hg; obtain⟨rfl,hb1⟩:=hg)|(go_at_call 123; refine HW.out.mono ?_; rintro e w' ⟨rfl,rfl⟩))
 go_ret
 exact⟨rfl,hb1⟩
theorem zym (b c:Int)(w:World):Calls Tryz.prog 64 #[.int .i64 15,.int .i64 b,.int .i64 c] w (zaj (.int .i64 (Dt.months b (Num.whole c))) w):=by
 have HC:=hid' (fun W=>zou b (Num.whole c) W)
 have HW:=hid' (zja c w)
 generalize Num.whole c=q at *
 generalize Dt.months b q=R at *
 go_enter Tryz.func64,Tryz.ntmps64
 go_wp2_with (first|(go_at_call 124; refine(HC.out _).mono ?_; intro e w' hg; obtain⟨rfl,hb1⟩:=hg)|(go_at_call 123; refine HW.out.mono ?_; rintro e w' ⟨rfl,rfl⟩))
 go_ret
 exact⟨rfl,hb1⟩
theorem zyl (b c:Int)(w:World):Calls Tryz.prog 64 #[.int .i64 16,.int .i64 b,.int .i64 c] w (zaj (.int .i64 (Dt.years b c)) w):=by
 have HC:=hid' (fun W=>zql b c W)
 generalize Dt.years b c=R at *
 go_enter Tryz.func64,Tryz.ntmps64
 go_wp2_with (first|(go_at_call 125; refine(HC.out _).mono ?_; intro e w' hg; obtain⟨rfl,hb1⟩:=hg))
 go_ret
 exact⟨rfl,hb1⟩
theorem zyk (b c:Int)(w:World):Calls Tryz.prog 64 #[.int .i64 17,.int .i64 b,.int .i64 c] w (zaj (.int .i64 (Dt.years30 b c)) w):=by
 have HC:=hid' (fun W=>zne b c W)
 generalize Dt.years30 b c=R at *
 go_enter Tryz.func64,Tryz.ntmps64
 go_wp2_with (first|(go_at_call 126; refine(HC.out _).mono ?_; intro e w' hg; obtain⟨rfl,hb1⟩:=hg))
 go_ret
 exact⟨rfl,hb1⟩
theorem zsq (op b c:Int)(h:op≠4∧op≠12∧op≠5∧op≠6∧op≠7∧op≠8∧op≠9∧op≠13∧op≠10∧op≠11∧op≠14∧op≠15∧op≠16∧op≠17)(w:World):Calls Tryz.prog 64 #[.int .i64 op,.int .i64 b,.int .i64 c] w (zaj (.int .i64 b) w):=by
 obtain⟨h1,h2,h3,h4,h5,h6,h7,h8,h9,h10,h11,h12,h13,h14⟩:=h
 have g1:(op == 4)=false:=by rw[beq_eq_false_iff_ne]; exact h1
 have g2:(op == 12)=false:=by rw[beq_eq_false_iff_ne]; exact h2
 have g3:(op == 5)=false:=by rw[beq_eq_false_iff_ne]; exact h3
 have g4:(op == 6)=false:=by rw[beq_eq_false_iff_ne]; exact h4
 have g5:(op == 7)=false:=by rw[beq_eq_false_iff_ne]; exact h5
 have g6:(op == 8)=false:=by rw[beq_eq_false_iff_ne]; exact h6
 have g7:(op == 9)=false:=by rw[beq_eq_false_iff_ne]; exact h7
 have g8:(op == 13)=false:=by rw[beq_eq_false_iff_ne]; exact h8
 have g9:(op == 10)=false:=by rw[beq_eq_false_iff_ne]; exact h9
 have g10:(op == 11)=false:=by rw[beq_eq_false_iff_ne]; exact h10
 have g11:(op == 14)=false:=by rw[beq_eq_false_iff_ne]; exact h11
 have g12:(op == 15)=false:=by rw[beq_eq_false_iff_ne]; exact h12
 have g13:(op == 16)=false:=by rw[beq_eq_false_iff_ne]; exact h13
 have g14:(op == 17)=false:=by rw[beq_eq_false_iff_ne]; exact h14
 clear h1 h2 h3 h4 h5 h6 h7 h8 h9 h10 h11 h12 h13 h14
 go_enter Tryz.func64,Tryz.ntmps64
 go_wp2_with fail
 go_ret
 exact⟨rfl,Below.refl _ _⟩
theorem zgl (op b c:Int)(w:World):Calls Tryz.prog 64 #[.int .i64 op,.int .i64 b,.int .i64 c] w (zaj (.int .i64 (Vm.rk op b c)) w):=by
 unfold Vm.rk
 by_cases h4:op=4
 ·rw[if_pos h4]; subst h4; exact qcl b c w
 rw[if_neg h4]
 by_cases h12:op=12
 ·rw[if_pos h12]; subst h12; exact zyp b c w
 rw[if_neg h12]
 by_cases h5:op=5
 ·rw[if_pos h5]; subst h5; exact qck b c w
 rw[if_neg h5]
 by_cases h6:op=6
 ·rw[if_pos h6]; subst h6; exact qcj b c w
 rw[if_neg h6]
 by_cases h7:op=7
 ·rw[if_pos h7]; subst h7; exact qci b c w
 rw[if_neg h7]
 by_cases h8:op=8
 ·rw[if_pos h8]; subst h8; exact qch b c w
 rw[if_neg h8]
 by_cases h9:op=9∨op=13
 ·rw[if_pos h9]
  rcases h9 with rfl|rfl
  ·exact qcg b c w
  ·exact zyo b c w
 rw[if_neg h9]
 by_cases h10:op=10
 ·rw[if_pos h10]; subst h10; exact zyr b c w
 rw[if_neg h10]
 by_cases h11:op=11
 ·rw[if_pos h11]; subst h11; exact zyq b c w
 rw[if_neg h11]
 by_cases h14:op=14
 ·rw[if_pos h14]; subst h14; exact zyn b c w
 rw[if_neg h14]
 by_cases h15:op=15
 ·rw[if_pos h15]; subst h15; exact zym b c w
 rw[if_neg h15]
 by_cases h16:op=16
 ·rw[if_pos h16]; subst h16; exact zyl b c w
 rw[if_neg h16]
 by_cases h17:op=17
 ·rw[if_pos h17]; subst h17; exact zyk b c w
 rw[if_neg h17]
 exact zsq op b c (by omega) w
end
end Go.Proofs.YtanlmbbalamgkaaGreatDoor
