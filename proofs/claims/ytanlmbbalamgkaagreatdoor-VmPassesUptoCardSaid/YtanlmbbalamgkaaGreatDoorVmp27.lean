/- Proved: lemmas and contracts of the functions that the law reaches, part 27 of 35: VmMach, VmReckon, VmRightF, VmStepM. Conditions: as each states. -/
import Derived.Test.YtanlmbbalamgkaaGreatDoorVmp6
import Derived.Test.YtanlmbbalamgkaaGreatDoorVmp12
import Derived.Test.YtanlmbbalamgkaaGreatDoorVmp20
import Derived.Test.YtanlmbbalamgkaaGreatDoorVmp21
namespace Go.Proofs.YtanlmbbalamgkaaGreatDoor
set_option linter.unusedVariables false
set_option linter.unusedSimpArgs false
section
open Go.RowKit
open Gen
open Rw
set_option maxRecDepth 100000
def zcr (x:Int × Int):List Value:=[.int .i64 x.1,.int .i64 x.2]
def zch (day:Int)(x:ByteArray × Int):List Value:=[.int .i64 day,.string x.1,.int .i64 x.2]
def mq (base:Nat)(w:World)(v:Value)(l:List (Int × Int)):Prop:=w.ownsRow base 52 2 v l.length (l.flatMap zcr)
def TranRow (base:Nat)(w:World)(v:Value)(day:Int)(l:List (ByteArray × Int)):Prop:=w.ownsRow base 59 3 v l.length (l.flatMap (zch day))
theorem zqu:(Tryz.prog.info? 52).map (fun i=>(i.zero,i.size,i.bytes))=some (some (.agg #[.int .i64 0,.int .i64 0]),2,16):=by kernel_rfl
theorem zqt:(Tryz.prog.info? 59).map (fun i=>(i.zero,i.size,i.bytes))=some (some (.agg #[.int .i64 0,.string ⟨#[]⟩,.int .i64 0]),3,32):=by kernel_rfl
theorem zoz {w:World}{ops:Array Oper}{o:Oper}{a:Act}{K:Act→World→Prop}{Q:Exit→Act→World→Prop}{E:Prop}(A4:o.guard=none)(s x:Operand)
  (ho:o.op=.call { callee:=.builtin .append,args:=#[s,x],argTypes:=#[39,39] })
  (base:Nat) (v:Value) (L:List (Int × Int)) (hs:a.eval s=v) (A0:mq base w v L) (y:Int × Int) (hx:a.eval x=.slice (some ⟨w.heap.size,0,none⟩) 1 1) (A1:L.length+1≤1000000) (A2:base≤w.heap.size)
  (h:∀ v' w',mq base w' v' (L++[y])→w.grownBy w' v.ownBlock→K (a.put o.dst v') w'):
  if Region.wanted o (yielded ops a.tmps)=true then Oper.wp Tryz.prog o a (w.alloc (.cells #[.int .i64 y.1,.int .i64 y.2] 52)) K Q else E:=by
 have hw:Region.wanted o (yielded ops a.tmps)=true:=by simp[Region.wanted,A4]
 rw[if_pos hw];obtain⟨i,hi,hz,A3,A5⟩:=info_split zqu;refine wp_append_own _ s x 39 ho base 52 i _ 2 16 Tryz.underlying39 hi hz A3 A5 rfl (by decide) v L.length _ hs (World.ownsRow.alloc A0 _) ⟨w.heap.size,0,none⟩ 1 1 (zcr y) hx rfl
  (fun j u hj=>?_) (fun u hu=>?_) (by unfold maxLen; omega) (by omega) (by simp; omega) (fun v' w' h1 h2 _=>h v' w' ?_ (grown_trans (grown_of_below ((Below.refl _ _).alloc (Nat.le_refl _) _) _) h2))
 ·rw[add_gen,World.cell?_alloc_new,Nat.zero_add,←hj];simp[zcr]
 ·simp only[zcr,List.mem_cons,List.not_mem_nil,or_false] at hu;rcases hu with rfl|rfl<;>rfl
 ·show World.ownsRow w' base _ 2 v' (L++[y]).length ((L++[y]).flatMap zcr)
  rw[List.length_append,List.flatMap_append];simpa using h1
theorem zoy {w:World}{ops:Array Oper}{o:Oper}{a:Act}{K:Act→World→Prop}{Q:Exit→Act→World→Prop}{E:Prop}(A4:o.guard=none)(s x:Operand)
  (ho:o.op=.call { callee:=.builtin .append,args:=#[s,x],argTypes:=#[40,40] })
  (base:Nat) (v:Value) (day:Int) (L:List (ByteArray × Int)) (hs:a.eval s=v) (A0:TranRow base w v day L) (y:ByteArray × Int) (hx:a.eval x=.slice (some ⟨w.heap.size,0,none⟩) 1 1) (A1:L.length+1≤1000000) (A2:base≤w.heap.size)
  (h:∀ v' w',TranRow base w' v' day (L++[y])→w.grownBy w' v.ownBlock→K (a.put o.dst v') w'):
  if Region.wanted o (yielded ops a.tmps)=true then Oper.wp Tryz.prog o a (w.alloc (.cells #[.int .i64 day,.string y.1,.int .i64 y.2] 59)) K Q else E:=by
 have hw:Region.wanted o (yielded ops a.tmps)=true:=by simp[Region.wanted,A4]
 rw[if_pos hw];obtain⟨i,hi,hz,A3,A5⟩:=info_split zqt;refine wp_append_own _ s x 40 ho base 59 i _ 3 32 Tryz.underlying40 hi hz A3 A5 rfl (by decide) v L.length _ hs (World.ownsRow.alloc A0 _) ⟨w.heap.size,0,none⟩ 1 1 (zch day y) hx rfl
  (fun j u hj=>?_) (fun u hu=>?_) (by unfold maxLen; omega) (by omega) (by simp; omega) (fun v' w' h1 h2 _=>h v' w' ?_ (grown_trans (grown_of_below ((Below.refl _ _).alloc (Nat.le_refl _) _) _) h2))
 ·rw[add_gen,World.cell?_alloc_new,Nat.zero_add,←hj];simp[zch]
 ·simp only[zch,List.mem_cons,List.not_mem_nil,or_false] at hu;rcases hu with rfl|rfl|rfl<;>rfl
 ·show World.ownsRow w' base _ 3 v' (L++[y]).length ((L++[y]).flatMap (zch day))
  rw[List.length_append,List.flatMap_append];simpa using h1
def zm (r:List Int):Array Value:=(r.map (Value.int .i64)).toArray
def RegBox (W:World)(rb:Nat)(r:List Int):Prop:=r.length=256∧W.heap[rb]? = some (.cells (zm r) 115 (0,0))
theorem RegBox.cell {W:World}{rb:Nat}{r:List Int}(h:RegBox W rb r){i:Int}(h0:0≤i)(h1:i<256):W.cell? ⟨rb,i.toNat,none⟩=some (.int .i64 (Vm.reg r i)):=by
 refine ab h.2 _ _ ?_;have hl:=h.1;have hi:i.toNat<r.length:=by omega
 unfold zm Vm.reg;rw[List.getElem?_toArray,List.getElem?_map,List.getElem?_eq_getElem hi];rfl
theorem RegBox.set {W:World}{rb:Nat}{r:List Int}(h:RegBox W rb r)(i v:Int):RegBox (W.setCell ⟨rb,i.toNat,none⟩ (.int .i64 v)) rb (Vm.setReg r i v):=by
 have hl:=h.1;refine⟨by unfold Vm.setReg; rw[List.length_set]; exact hl,?_⟩;refine(heap_setCell_same W rb i.toNat _ _ (.int .i64 v) h.2).trans ?_;unfold zm Vm.setReg;congr 2
 rw[List.map_set];simp
def zwc (W:World)(mb:Nat)(c:Gen.Cd)(vw vi:Value)(day:Int)(vf vh vo:Value)(steps:Int)(over:Bool):Prop:=
 W.heap[mb]? = some (.cells #[.int .i64 c.regs,vw,vi,.int .i64 day,vf,vh,vo,.int .i64 steps,.bool over] 82 (0,0))
structure Mach (W0:World)(mb:Nat)(c:Gen.Cd)(day:Int)(vw vi vf:Value)(st:Vm.St)(vh vo:Value)(W:World):Prop where
 bel:Below mb W0 W
 box:zwc W mb c vw vi day vf vh vo (st.steps:Int) st.over
 hs:mq (mb+1) W vh st.holds
 ts:TranRow (mb+1) W vo day st.out
structure KpM (mb:Nat)(W W':World):Prop where
 bel:Below mb W W'
 oth:∀(k:Nat) (cur:Array Value) (t:TypeId),k≠mb→t≠52→t≠59→W.heap[k]? = some (.cells cur t (0,0))→W'.heap[k]? = W.heap[k]?
theorem KpM.trans {mb:Nat}{A B C:World}(h:KpM mb A B)(k:KpM mb B C):KpM mb A C:=
 ⟨h.bel.trans k.bel,fun j cur t hj h1 h2 e=>(k.oth j cur t hj h1 h2 ((h.oth j cur t hj h1 h2 e).trans e)).trans (h.oth j cur t hj h1 h2 e)⟩
theorem KpM.below {mb:Nat}{W W':World}(h:Below W.heap.size W W')(hm:mb≤W.heap.size):KpM mb W W':=⟨h.mono hm,fun k cur t _ _ _ e=>h.block k (af e)⟩
theorem KpM.box {mb:Nat}{W W':World}(h:KpM mb W W'){k:Nat}{cur:Array Value}{t:TypeId}(hk:k≠mb)(h1:t≠52)(h2:t≠59)(e:W.heap[k]? = some (.cells cur t (0,0))):W'.heap[k]? = some (.cells cur t (0,0)):=(h.oth k cur t hk h1 h2 e).trans e
theorem KpM.mset {mb:Nat}(W:World)(o:Nat)(v:Value):KpM mb W (W.setCell ⟨mb,o,none⟩ v):=
 ⟨(Below.refl mb W).setCell (p:=⟨mb,o,none⟩) (Nat.le_refl _) v,fun k cur t hk _ _ _=>Below.heap_setCell W ⟨mb,o,none⟩ v k hk⟩
theorem ei {W:World}{base z n:Nat}{t:TypeId}{v:Value}{xs:List Value}(h:W.ownsRow base t z v n xs){k:Nat}(hk:v.ownBlock=some k):base≤k∧∃ cur,W.heap[k]? = some (.cells cur t (0,0)):=by
 rcases h.2 with⟨rfl,_⟩|⟨g,cap,cur,rfl,hb,hc,_⟩
 ·cases hk
 ·obtain rfl:g=k:=Option.some.inj hk;exact⟨hb,cur,hc⟩
theorem KpM.row {mb:Nat}{W W':World}{v:Value}{z n:Nat}{t:TypeId}{xs:List Value}(h:W.ownsRow (mb+1) t z v n xs)(ht:t=52∨t=59)(g:W.grownBy W' v.ownBlock)(hm:mb<W.heap.size):KpM mb W W':=by
 have A0:∀ k,v.ownBlock=some k→mb<k∧∃ cur,W.heap[k]? = some (.cells cur t (0,0)):=fun k hk=>ei h hk;refine⟨⟨g.os,g.tape,g.output,g.size,fun k hk=>?_⟩,fun k cur t' _ h1 h2 e=>?_⟩
 ·exact g.block k (Nat.lt_trans hk hm) fun e=>by have:=(A0 k e.symm).1; omega
 ·refine g.block k (af e) fun e2=>?_;obtain⟨-,A1,h5⟩:=A0 k e2.symm;have e6:=h5.symm.trans e;simp only[Option.some.injEq,Obj.cells.injEq] at e6;rcases ht with rfl|rfl
  ·exact h1 e6.2.1.symm
  ·exact h2 e6.2.1.symm
theorem Mach.lt {W0:World}{mb:Nat}{c:Gen.Cd}{day:Int}{vw vi vf:Value}{st:Vm.St}{vh vo:Value}{W:World}(h:Mach W0 mb c day vw vi vf st vh vo W):mb<W.heap.size:=af h.box
theorem Mach.below {W0:World}{mb:Nat}{c:Gen.Cd}{day:Int}{vw vi vf:Value}{st:Vm.St}{vh vo:Value}{W W':World}(h:Mach W0 mb c day vw vi vf st vh vo W)(b:Below W.heap.size W W'):Mach W0 mb c day vw vi vf st vh vo W':=
 ⟨h.bel.trans (b.mono (Nat.le_of_lt h.lt)),ag b h.box,World.ownsRow.kept h.hs (grown_of_below b none) (by
  rcases hv:vh.ownBlock with _|k
  ·exact .inl rfl
  ·exact .inr (by simp)),World.ownsRow.kept h.ts (grown_of_below b none) (by
  rcases hv:vo.ownBlock with _|k
  ·exact .inl rfl
  ·exact .inr (by simp))⟩
theorem Mach.other {W0:World}{mb:Nat}{c:Gen.Cd}{day:Int}{vw vi vf:Value}{st:Vm.St}{vh vo:Value}{W:World}(h:Mach W0 mb c day vw vi vf st vh vo W){k:Nat}{cur:Array Value}{t:TypeId}(hk:mb<k)(e:W.heap[k]? = some (.cells cur t (0,0)))(h1:t≠52)(h2:t≠59)(o:Nat)(v:Value):
  Mach W0 mb c day vw vi vf st vh vo (W.setCell ⟨k,o,none⟩ v):=by
 have gs:=grown_set W k o v;refine⟨below_grown h.bel gs (by omega) (Nat.le_of_lt h.lt),box_grown gs (by omega) h.box,World.ownsRow.kept h.hs gs (.inr fun e2=>?_),World.ownsRow.kept h.ts gs (.inr fun e2=>?_)⟩
 ·obtain⟨-,A0,h5⟩:=ei h.hs e2;have e6:=h5.symm.trans e;simp only[Option.some.injEq,Obj.cells.injEq] at e6;exact h1 e6.2.1.symm
 ·obtain⟨-,A0,h5⟩:=ei h.ts e2;have e6:=h5.symm.trans e;simp only[Option.some.injEq,Obj.cells.injEq] at e6;exact h2 e6.2.1.symm
theorem Mach.rows_set {W:World}{mb:Nat}{t:TypeId}{z n:Nat}{v:Value}{xs:List Value}(h:W.ownsRow (mb+1) t z v n xs)(o:Nat)(u:Value):(W.setCell ⟨mb,o,none⟩ u).ownsRow (mb+1) t z v n xs:=
 World.ownsRow.kept h (grown_set W mb o u) (.inr (mi h (Nat.lt_succ_self _)))
theorem Mach.steps {W0:World}{mb:Nat}{c:Gen.Cd}{day:Int}{vw vi vf:Value}{st:Vm.St}{vh vo:Value}{W:World}(h:Mach W0 mb c day vw vi vf st vh vo W):
  Mach W0 mb c day vw vi vf ⟨st.holds,st.out,st.steps+1,st.over⟩ vh vo (W.setCell ⟨mb,7,none⟩ (.int .i64 ((st.steps:Int)+1))):=
 ⟨h.bel.trans (KpM.mset W 7 _).bel,heap_setCell_same W mb 7 _ _ _ h.box,Mach.rows_set h.hs 7 _,Mach.rows_set h.ts 7 _⟩
theorem Mach.setOver {W0:World}{mb:Nat}{c:Gen.Cd}{day:Int}{vw vi vf:Value}{st:Vm.St}{vh vo:Value}{W:World}(h:Mach W0 mb c day vw vi vf st vh vo W)(o:Bool):
  Mach W0 mb c day vw vi vf ⟨st.holds,st.out,st.steps,o⟩ vh vo (W.setCell ⟨mb,8,none⟩ (.bool o)):=
 ⟨h.bel.trans (KpM.mset W 8 _).bel,heap_setCell_same W mb 8 _ _ _ h.box,Mach.rows_set h.hs 8 _,Mach.rows_set h.ts 8 _⟩
theorem Mach.pushHold {W0:World}{mb:Nat}{c:Gen.Cd}{day:Int}{vw vi vf:Value}{st:Vm.St}{vh vo v':Value}{W W':World}(h:Mach W0 mb c day vw vi vf st vh vo W){y:Int × Int}
  (row:mq (mb+1) W' v' (st.holds++[y])) (g:W.grownBy W' vh.ownBlock):Mach W0 mb c day vw vi vf ⟨st.holds++[y],st.out,st.steps,st.over⟩ v' vo (W'.setCell ⟨mb,5,none⟩ v'):=by
 have K:=KpM.row h.hs (.inl rfl) g h.lt;have hb:zwc W' mb c vw vi day vf vh vo st.steps st.over:=(g.block mb h.lt fun e=>mi h.hs (Nat.lt_succ_self _) e.symm).trans h.box;have ht:=World.ownsRow.kept h.ts g (zen h.ts h.hs (by decide));exact⟨(h.bel.trans K.bel).trans (KpM.mset W' 5 _).bel,heap_setCell_same W' mb 5 _ _ _ hb,Mach.rows_set row 5 _,Mach.rows_set ht 5 _⟩
theorem Mach.pushTran {W0:World}{mb:Nat}{c:Gen.Cd}{day:Int}{vw vi vf:Value}{st:Vm.St}{vh vo v':Value}{W W':World}(h:Mach W0 mb c day vw vi vf st vh vo W){y:ByteArray × Int}
  (row:TranRow (mb+1) W' v' day (st.out++[y])) (g:W.grownBy W' vo.ownBlock):Mach W0 mb c day vw vi vf ⟨st.holds,st.out++[y],st.steps,st.over⟩ vh v' (W'.setCell ⟨mb,6,none⟩ v'):=by
 have K:=KpM.row h.ts (.inr rfl) g h.lt;have hb:zwc W' mb c vw vi day vf vh vo st.steps st.over:=(g.block mb h.lt fun e=>mi h.ts (Nat.lt_succ_self _) e.symm).trans h.box;have ht:=World.ownsRow.kept h.hs g (zen h.hs h.ts (by decide));exact⟨(h.bel.trans K.bel).trans (KpM.mset W' 6 _).bel,heap_setCell_same W' mb 6 _ _ _ hb,Mach.rows_set ht 6 _,Mach.rows_set row 6 _⟩
end
section
open Go.RowKit
set_option maxRecDepth 100000
theorem qh (b:Bool)(w:World):Calls Tryz.prog 119 #[.bool b] w (Ret (.int .i64 (Vm.truth b)) w):=by
 cases b with
 |true=>
  go_enter Tryz.func119,Tryz.ntmps119;go_wp2_with fail
  go_ret;exact⟨rfl,rfl⟩
 |false=>
  go_enter Tryz.func119,Tryz.ntmps119;go_wp2_with fail
  go_ret;exact⟨rfl,rfl⟩
theorem nw (n:Int)(w:World):Calls Tryz.prog 29 #[.int .i64 n] w (Ret (.bool (decide (0≤n) && decide (n≤73048))) w):=by
 by_cases h1:0≤n
 ·have g1:decide (0≤n)=true:=decide_eq_true h1;have e:=aa (show(decide (0≤n) && decide (n≤73048))=decide (n≤73048) by rw[g1,Bool.true_and]);rw[e.out];clear h1;go_enter Tryz.func29,Tryz.ntmps29;go_wp2_with fail
  go_ret;exact⟨rfl,rfl⟩
 ·have g1:decide (0≤n)=false:=decide_eq_false h1;have e:=aa (show(decide (0≤n) && decide (n≤73048))=false by rw[g1,Bool.false_and]);rw[e.out];clear h1;go_enter Tryz.func29,Tryz.ntmps29;go_wp2_with fail
  go_ret;exact⟨rfl,rfl⟩
theorem zcx (s:ByteArray)(w:World)(hs:s.size≤9223372036854775807):Calls Tryz.prog 33 #[.string s] w (ar (.bool (Led.isName s)) w):=by
 have HT:=aa (zgl s w hs);go_enter Tryz.func33,Tryz.ntmps33;go_wp2_with fail
 refine HT.out.mono ?_;rintro e w1 ⟨rfl,b1⟩;go_wp2_with fail
 go_ret;exact⟨rfl,b1⟩
theorem jd {v:Value}{w w':World}{e:Ending}(h:Ret v w e w'):ar v w e w':=⟨h.1,by rw[h.2]; exact Below.refl _ _⟩
theorem zev {v:Value}{w w':World}{e:Ending}(h:zcg v w e w'):ar v w e w':=by
 obtain⟨h1,n,h2⟩:=h;exact⟨h1,by rw[h2]; exact Below.drewn (Below.refl _ _) n⟩
theorem zty (b c:Int)(w:World):Calls Tryz.prog 64 #[.int .i64 4,.int .i64 b,.int .i64 c] w (ar (.int .i64 (Num.neg b)) w):=by
 have HC:=aa (fun W=>zfs b W);generalize Num.neg b=R at *;go_enter Tryz.func64,Tryz.ntmps64;go_wp2_with (first|(go_at_call 63; refine(HC.out _).mono ?_; intro e w' hg; have hg:=jd hg; obtain⟨rfl,A0⟩:=hg))
 go_ret;exact⟨rfl,A0⟩
theorem zpt (b c:Int)(w:World):Calls Tryz.prog 64 #[.int .i64 12,.int .i64 b,.int .i64 c] w (ar (.int .i64 (Vm.truth (decide (b=0)))) w):=by
 have HC:=aa (fun W=>qh (decide (b=0)) W);by_cases hb:b=0
 ·have e:=aa (show decide (b=0)=true from decide_eq_true hb);rw[e.out] at HC ⊢;have e2:(b == 0)=true:=by rw[hb]; exact beq_self_eq_true _
  clear hb;generalize Vm.truth true=R at *;go_enter Tryz.func64,Tryz.ntmps64;go_wp2_with (first|(go_at_call 119; refine(HC.out _).mono ?_; intro e w' hg; have hg:=jd hg; obtain⟨rfl,A0⟩:=hg))
  go_ret;exact⟨rfl,A0⟩
 ·have e:=aa (show decide (b=0)=false from decide_eq_false hb);rw[e.out] at HC ⊢;have e2:(b == 0)=false:=by rw[beq_eq_false_iff_ne]; exact hb
  clear hb;generalize Vm.truth false=R at *;go_enter Tryz.func64,Tryz.ntmps64;go_wp2_with (first|(go_at_call 119; refine(HC.out _).mono ?_; intro e w' hg; have hg:=jd hg; obtain⟨rfl,A0⟩:=hg))
  go_ret;exact⟨rfl,A0⟩
theorem ztx (b c:Int)(w:World):Calls Tryz.prog 64 #[.int .i64 5,.int .i64 b,.int .i64 c] w (ar (.int .i64 (Num.add b c)) w):=by
 have HC:=aa (fun W=>zmu b c W);generalize Num.add b c=R at *;go_enter Tryz.func64,Tryz.ntmps64;go_wp2_with (first|(go_at_call 120; refine(HC.out _).mono ?_; intro e w' hg; have hg:=jd hg; obtain⟨rfl,A0⟩:=hg))
 go_ret;exact⟨rfl,A0⟩
theorem ztw (b c:Int)(w:World):Calls Tryz.prog 64 #[.int .i64 6,.int .i64 b,.int .i64 c] w (ar (.int .i64 (Num.sub b c)) w):=by
 have HC:=aa (fun W=>zlv b c W);generalize Num.sub b c=R at *;go_enter Tryz.func64,Tryz.ntmps64;go_wp2_with (first|(go_at_call 121; refine(HC.out _).mono ?_; intro e w' hg; have hg:=jd hg; obtain⟨rfl,A0⟩:=hg))
 go_ret;exact⟨rfl,A0⟩
theorem ztv (b c:Int)(w:World):Calls Tryz.prog 64 #[.int .i64 7,.int .i64 b,.int .i64 c] w (ar (.int .i64 (Num.mul b c)) w):=by
 have HC:=aa (fun W=>zft b c W);generalize Num.mul b c=R at *;go_enter Tryz.func64,Tryz.ntmps64;go_wp2_with (first|(go_at_call 62; refine(HC.out _).mono ?_; intro e w' hg; have hg:=zev hg; obtain⟨rfl,A0⟩:=hg))
 go_ret;exact⟨rfl,A0⟩
theorem ztu (b c:Int)(w:World):Calls Tryz.prog 64 #[.int .i64 8,.int .i64 b,.int .i64 c] w (ar (.int .i64 (Num.div b c)) w):=by
 have HC:=aa (fun W=>zfz b c W);generalize Num.div b c=R at *;go_enter Tryz.func64,Tryz.ntmps64;go_wp2_with (first|(go_at_call 122; refine(HC.out _).mono ?_; intro e w' hg; have hg:=zev hg; obtain⟨rfl,A0⟩:=hg))
 go_ret;exact⟨rfl,A0⟩
theorem ztt (b c:Int)(w:World):Calls Tryz.prog 64 #[.int .i64 9,.int .i64 b,.int .i64 c] w (ar (.int .i64 (Vm.truth (decide (b<c)))) w):=by
 have HC:=aa (fun W=>qh (decide (b<c)) W);go_enter Tryz.func64,Tryz.ntmps64;go_wp2_with (first|(go_at_call 119; refine(HC.out _).mono ?_; intro e w' hg; have hg:=jd hg; obtain⟨rfl,A0⟩:=hg))
 go_ret;exact⟨rfl,A0⟩
theorem zps (b c:Int)(w:World):Calls Tryz.prog 64 #[.int .i64 13,.int .i64 b,.int .i64 c] w (ar (.int .i64 (Vm.truth (decide (b<c)))) w):=by
 have HC:=aa (fun W=>qh (decide (b<c)) W);go_enter Tryz.func64,Tryz.ntmps64;go_wp2_with (first|(go_at_call 119; refine(HC.out _).mono ?_; intro e w' hg; have hg:=jd hg; obtain⟨rfl,A0⟩:=hg))
 go_ret;exact⟨rfl,A0⟩
theorem zpv (b c:Int)(w:World):Calls Tryz.prog 64 #[.int .i64 10,.int .i64 b,.int .i64 c] w (ar (.int .i64 (Vm.truth (decide (b≤c)))) w):=by
 have HC:=aa (fun W=>qh (decide (b≤c)) W);go_enter Tryz.func64,Tryz.ntmps64;go_wp2_with (first|(go_at_call 119; refine(HC.out _).mono ?_; intro e w' hg; have hg:=jd hg; obtain⟨rfl,A0⟩:=hg))
 go_ret;exact⟨rfl,A0⟩
theorem zpu (b c:Int)(w:World):Calls Tryz.prog 64 #[.int .i64 11,.int .i64 b,.int .i64 c] w (ar (.int .i64 (Vm.truth (decide (b=c)))) w):=by
 have HC:=aa (fun W=>qh (decide (b=c)) W);by_cases hb:b=c
 ·have e:=aa (show decide (b=c)=true from decide_eq_true hb);rw[e.out] at HC ⊢;have e2:(b == c)=true:=by rw[hb]; exact beq_self_eq_true _
  clear hb;generalize Vm.truth true=R at *;go_enter Tryz.func64,Tryz.ntmps64;go_wp2_with (first|(go_at_call 119; refine(HC.out _).mono ?_; intro e w' hg; have hg:=jd hg; obtain⟨rfl,A0⟩:=hg))
  go_ret;exact⟨rfl,A0⟩
 ·have e:=aa (show decide (b=c)=false from decide_eq_false hb);rw[e.out] at HC ⊢;have e2:(b == c)=false:=by rw[beq_eq_false_iff_ne]; exact hb
  clear hb;generalize Vm.truth false=R at *;go_enter Tryz.func64,Tryz.ntmps64;go_wp2_with (first|(go_at_call 119; refine(HC.out _).mono ?_; intro e w' hg; have hg:=jd hg; obtain⟨rfl,A0⟩:=hg))
  go_ret;exact⟨rfl,A0⟩
theorem zpr (b c:Int)(w:World):Calls Tryz.prog 64 #[.int .i64 14,.int .i64 b,.int .i64 c] w (ar (.int .i64 (Dt.plus b (Num.whole c))) w):=by
 have HC:=aa (fun W=>zbw b (Num.whole c) W);have HW:=aa (vt c w);generalize Num.whole c=q at *;generalize Dt.plus b q=R at *;go_enter Tryz.func64,Tryz.ntmps64;go_wp2_with (first|(go_at_call 59; refine(HC.out _).mono ?_; intro e w' hg; have hg:=jd hg; obtain⟨rfl,A0⟩:=hg)|(go_at_call 123; refine HW.out.mono ?_; rintro e w' ⟨rfl,rfl⟩))
 go_ret;exact⟨rfl,A0⟩
theorem zpq (b c:Int)(w:World):Calls Tryz.prog 64 #[.int .i64 15,.int .i64 b,.int .i64 c] w (ar (.int .i64 (Dt.months b (Num.whole c))) w):=by
 have HC:=aa (fun W=>zeq b (Num.whole c) W);have HW:=aa (vt c w);generalize Num.whole c=q at *;generalize Dt.months b q=R at *;go_enter Tryz.func64,Tryz.ntmps64;go_wp2_with (first|(go_at_call 124; refine(HC.out _).mono ?_; intro e w' hg; obtain⟨rfl,A0⟩:=hg)|(go_at_call 123; refine HW.out.mono ?_; rintro e w' ⟨rfl,rfl⟩))
 go_ret;exact⟨rfl,A0⟩
theorem zpp (b c:Int)(w:World):Calls Tryz.prog 64 #[.int .i64 16,.int .i64 b,.int .i64 c] w (ar (.int .i64 (Dt.years b c)) w):=by
 have HC:=aa (fun W=>zgf b c W);generalize Dt.years b c=R at *;go_enter Tryz.func64,Tryz.ntmps64;go_wp2_with (first|(go_at_call 125; refine(HC.out _).mono ?_; intro e w' hg; obtain⟨rfl,A0⟩:=hg))
 go_ret;exact⟨rfl,A0⟩
theorem zpo (b c:Int)(w:World):Calls Tryz.prog 64 #[.int .i64 17,.int .i64 b,.int .i64 c] w (ar (.int .i64 (Dt.years30 b c)) w):=by
 have HC:=aa (fun W=>zcu b c W);generalize Dt.years30 b c=R at *;go_enter Tryz.func64,Tryz.ntmps64;go_wp2_with (first|(go_at_call 126; refine(HC.out _).mono ?_; intro e w' hg; obtain⟨rfl,A0⟩:=hg))
 go_ret;exact⟨rfl,A0⟩
theorem zit (op b c:Int)(h:op≠4∧op≠12∧op≠5∧op≠6∧op≠7∧op≠8∧op≠9∧op≠13∧op≠10∧op≠11∧op≠14∧op≠15∧op≠16∧op≠17)(w:World):Calls Tryz.prog 64 #[.int .i64 op,.int .i64 b,.int .i64 c] w (ar (.int .i64 b) w):=by
 obtain⟨h1,h2,h3,h4,h5,h6,h7,h8,h9,A4,A3,A2,A1,A0⟩:=h;have g1:(op == 4)=false:=by rw[beq_eq_false_iff_ne]; exact h1
 have g2:(op == 12)=false:=by rw[beq_eq_false_iff_ne]; exact h2
 have g3:(op == 5)=false:=by rw[beq_eq_false_iff_ne]; exact h3
 have g4:(op == 6)=false:=by rw[beq_eq_false_iff_ne]; exact h4
 have g5:(op == 7)=false:=by rw[beq_eq_false_iff_ne]; exact h5
 have g6:(op == 8)=false:=by rw[beq_eq_false_iff_ne]; exact h6
 have g7:(op == 9)=false:=by rw[beq_eq_false_iff_ne]; exact h7
 have g8:(op == 13)=false:=by rw[beq_eq_false_iff_ne]; exact h8
 have g9:(op == 10)=false:=by rw[beq_eq_false_iff_ne]; exact h9
 have A9:(op == 11)=false:=by rw[beq_eq_false_iff_ne]; exact A4
 have A8:(op == 14)=false:=by rw[beq_eq_false_iff_ne]; exact A3
 have A7:(op == 15)=false:=by rw[beq_eq_false_iff_ne]; exact A2
 have A6:(op == 16)=false:=by rw[beq_eq_false_iff_ne]; exact A1
 have A5:(op == 17)=false:=by rw[beq_eq_false_iff_ne]; exact A0
 clear h1 h2 h3 h4 h5 h6 h7 h8 h9 A4 A3 A2 A1 A0;go_enter Tryz.func64,Tryz.ntmps64;go_wp2_with fail
 go_ret;exact⟨rfl,Below.refl _ _⟩
theorem qo (op b c:Int)(w:World):Calls Tryz.prog 64 #[.int .i64 op,.int .i64 b,.int .i64 c] w (ar (.int .i64 (Vm.rk op b c)) w):=by
 unfold Vm.rk;by_cases h4:op=4
 ·rw[if_pos h4]; subst h4; exact zty b c w
 rw[if_neg h4];by_cases A4:op=12
 ·rw[if_pos A4]; subst A4; exact zpt b c w
 rw[if_neg A4];by_cases h5:op=5
 ·rw[if_pos h5]; subst h5; exact ztx b c w
 rw[if_neg h5];by_cases h6:op=6
 ·rw[if_pos h6]; subst h6; exact ztw b c w
 rw[if_neg h6];by_cases h7:op=7
 ·rw[if_pos h7]; subst h7; exact ztv b c w
 rw[if_neg h7];by_cases h8:op=8
 ·rw[if_pos h8]; subst h8; exact ztu b c w
 rw[if_neg h8];by_cases h9:op=9∨op=13
 ·rw[if_pos h9];rcases h9 with rfl|rfl
  ·exact ztt b c w
  ·exact zps b c w
 rw[if_neg h9];by_cases A6:op=10
 ·rw[if_pos A6]; subst A6; exact zpv b c w
 rw[if_neg A6];by_cases A5:op=11
 ·rw[if_pos A5]; subst A5; exact zpu b c w
 rw[if_neg A5];by_cases A3:op=14
 ·rw[if_pos A3]; subst A3; exact zpr b c w
 rw[if_neg A3];by_cases A2:op=15
 ·rw[if_pos A2]; subst A2; exact zpq b c w
 rw[if_neg A2];by_cases A1:op=16
 ·rw[if_pos A1]; subst A1; exact zpp b c w
 rw[if_neg A1];by_cases A0:op=17
 ·rw[if_pos A0]; subst A0; exact zpo b c w
 rw[if_neg A0];exact zit op b c (by omega) w
end
section
open Go.RowKit
open Gen
open Rw
set_option maxRecDepth 100000
namespace Fd
def prevBad (F:List Feed)(i:Nat)(s:ByteArray):Bool:=match i with|0=>false|j+1=>!lt (at' F j).1 s
def headBad (F:List Feed)(i:Nat)(f:Feed):Bool:=!Led.isName f.1 || (prevBad F i f.1 || decide (4096<f.2.length))
def prevLate (l:List (Int × Int))(k:Nat)(d:Int):Bool:=match k with|0=>false|j+1=>decide (d≤(stampAt l j).1)
def stampBad (l:List (Int × Int))(k:Nat)(s:Int × Int):Bool:=!(decide (0≤s.1) && decide (s.1≤73048)) || (prevLate l k s.1 || !(s.2 == Num.clamp s.2))
theorem at_eq {F:List Feed}{j:Nat}{g:Feed}(h:F[j]? = some g):at' F j=g:=by unfold at'; rw[h]; rfl
theorem stampAt_eq {l:List (Int × Int)}{j:Nat}{g:Int × Int}(h:l[j]? = some g):stampAt l j=g:=by unfold stampAt; rw[h]; rfl
theorem stamp_good {l:List (Int × Int)}{k:Nat}{s:Int × Int}(h:stampBad l k s=false):StampOk l k s:=by
 unfold stampBad at h;simp only[Bool.or_eq_false_iff,Bool.not_eq_false',Bool.and_eq_true,decide_eq_true_eq,beq_iff_eq] at h;refine⟨h.1,fun j hj u hu=>?_,h.2.2⟩;subst hj
 have:=h.2.1;simp only[prevLate,decide_eq_false_iff_not] at this;rw[stampAt_eq hu] at this;omega
theorem stamp_bad {l:List (Int × Int)}{k:Nat}{s:Int × Int}(hk:k<l.length)(h:stampBad l k s=true):¬StampOk l k s:=by
 intro ok;unfold stampBad at h;have h1:=ok.day;have h2:=ok.num;rw[decide_eq_true h1.1,decide_eq_true h1.2,show(s.2 == Num.clamp s.2)=true by rw[beq_iff_eq]; exact h2] at h;cases k with
 |zero=>cases h
 |succ j=>
  simp only[prevLate,Bool.and_self,Bool.not_true,Bool.false_or,Bool.or_false,decide_eq_true_eq] at h;have hj:l[j]? = some (stampAt l j):=by unfold stampAt; rw[List.getElem?_eq_getElem (by omega)]; rfl
  have:=ok.up j rfl _ hj;omega
theorem head_bad {F:List Feed}{i:Nat}{f:Feed}(hi:i<F.length)(h:headBad F i f=true):¬FeedOk F i f:=by
 intro ok;unfold headBad at h;have h1:=ok.len;rw[ok.name,decide_eq_false (by omega:¬4096<f.2.length)] at h;cases i with
 |zero=>cases h
 |succ j=>
  have hj:F[j]? = some (at' F j):=by unfold at'; rw[List.getElem?_eq_getElem (by omega)]; rfl
  have:=ok.rise j rfl _ hj;simp only[prevBad,this] at h;cases h
theorem feed_good {F:List Feed}{i:Nat}{f:Feed}(h:headBad F i f=false)(hs:∀ k s,f.2[k]? = some s→StampOk f.2 k s):FeedOk F i f:=by
 unfold headBad at h;simp only[Bool.or_eq_false_iff,Bool.not_eq_false',decide_eq_false_iff_not] at h;refine⟨h.1,fun j hj g hg=>?_,by omega,hs⟩;subst hj
 have:=h.2.1;simp only[prevBad,Bool.not_eq_false'] at this;rwa [at_eq hg] at this
end Fd
set_option maxHeartbeats 8000000 in
theorem xz (v:Value)(F:List Fd.Feed)(w:World)(h:FeedsAt w v F):Calls Tryz.prog 30 #[v] w (ar (.bool (Fd.right F)) w):=by
 obtain⟨p,c,rfl,⟨E8,E1⟩,hf⟩:=h;have HF:=aa hf;have F1:(F.length:Int)≤9223372036854775807:=by unfold maxLen at E1; omega
 clear hf E8 E1;by_cases C4:64<F.length
 ·have e:=aa (Fd.right_no (F:=F) (fun ok=>by have:=ok.1; omega));have B6:decide ((64:Int)<(F.length:Int))=true:=decide_eq_true (by omega);have B5:decide (64<F.length)=true:=decide_eq_true C4;go_enter Tryz.func30,Tryz.ntmps30;clear C4;go_wp2_with fail
  go_ret;exact⟨by rw[e.out]; rfl,Below.refl _ _⟩
 ·have B6:decide ((64:Int)<(F.length:Int))=false:=decide_eq_false (by omega);have B5:decide (64<F.length)=false:=decide_eq_false C4;have F7:=aa (show F.length≤64 by omega);clear C4;go_enter Tryz.func30,Tryz.ntmps30;go_wp2_with fail
  clear B6 B5;have F8:=aa (show ∀ j,j<0→∀ f,F[j]? = some f→Fd.FeedOk F j f from fun j hj=>by omega);go_loopw [12] (fun iv wr=>∃ i:Nat,iv=.int .i64 (i:Int)∧i≤F.length∧Hid (∀ j,j<i→∀ f,F[j]? = some f→Fd.FeedOk F j f)∧Hid (Below w.heap.size w wr)) (fun iv _=>F.length - (intOf iv).toNat)
  case atStart=>exact⟨0,rfl,Nat.zero_le _,F8,Below.refl _ _⟩
  case round=>
   obtain⟨i,rfl,hi,HA,HW⟩:=hrel;by_cases C3:i<F.length
   ·obtain⟨x,hx⟩:∃ x,F[i]? = some x:=⟨_,List.getElem?_eq_getElem C3⟩
    obtain⟨fb,fo,sv,rfl,E9,⟨x0,x1⟩,D6,D5⟩:=HF.out i x hx;replace x0:=ax HW.out _ _ x0;replace x1:=ax HW.out _ _ x1;have C9:=D6.below HW.out;obtain⟨sp,sc,rfl,⟨D8,D7⟩,B1⟩:=C9;have C5:=aa B1;have j1:(0:Int)≤(i:Int):=by omega
    have j2:(i:Int)<(F.length:Int):=by omega
    have wi:IntKind.i64.wrap ((i:Int)+1)=(i:Int)+1:=IntWalk.i64_in _ (by omega);have HX:=aa hx;have HI:=aa C3;have C6:=aa D7;have D0:=D8;clear D6 B1 D8 D7 hx C3 E9;go_upto_region 6 with(fail)
    have BX:=(Below.refl wr.heap.size wr).alloc (Nat.le_refl _) (.cells #[.string x.1,.slice sp x.2.length sc] 112);have A4:=heap_alloc_new wr (.cells #[.string x.1,.slice sp x.2.length sc] 112);have D4:=aa (Below.more HW.out BX);have B7:=aa (show StampsAt _ (.slice sp x.2.length sc) x.2 from(show StampsAt wr (.slice sp x.2.length sc) x.2 from⟨sp,sc,rfl,⟨D0,C6.out⟩,C5.out⟩).below BX);have A5:=aa A4;clear BX A4 x0 x1 C5;generalize wr.alloc (.cells #[.string x.1,.slice sp x.2.length sc] 112)=w6 at *;generalize wr.heap.size=xb at *;have z0:=ab A5.out 0 _ rfl;have z1:=ab A5.out 1 _ rfl;have F2:=aa D5;clear D5;obtain⟨bad,A1⟩:∃ bad,Hid (bad=Fd.headBad F i x):=⟨_,rfl⟩
    go_cut [41] (fun v wx=>v=.bool bad∧Hid (Below w6.heap.size w6 wx));case first=>
     have HC:=aa (fun W=>zcx x.1 W (by have:=F2.out; omega));have hb:=aa (show bad=(!Led.isName x.1 || (Fd.prevBad F i x.1 || decide (4096<x.2.length))) from A1.out);have E0:decide ((4096:Int)<(x.2.length:Int))=decide (4096<x.2.length):=by
      by_cases h:4096<x.2.length
      ·rw[decide_eq_true h,decide_eq_true (by omega)]
      ·rw[decide_eq_false h,decide_eq_false (by omega)]
     generalize decide (4096<x.2.length)=ln at *;have A4:=(Below.refl w6.heap.size w6).drew;clear z0 z1;cases hn:Led.isName x.1 with
     |false=>
      rw[hn] at HC hb;have hq:=aa (show bad=true from hb.out);have HK:=aa (fun (W:World) (b:Below w6.heap.size w6 W)=>And.intro (ab (ag b A5.out) 0 _ rfl) (And.intro (ab (ag b A5.out) 1 _ rfl) trivial));clear hn hb;refine bj (fun w'=>Below w6.heap.size w6 w') (by kernel_rfl) (by kernel_rfl) A4 ?_;repeat (first
       |(refine br ?_ ?_
         ·rfl
         simp only[Act.put,List.setIfInBounds_toArray,List.set_cons_zero,List.set_cons_succ])
       |(apply az 33 #[.string x.1]
         ·rfl
         ·(intro w A0; go_simp; done)
         ·(intro w A0; exact(HC.out w).mono fun e w'' h=>⟨h.1,Below.more A0 h.2⟩)
         simp only[Act.put,List.setIfInBounds_toArray,List.set_cons_zero,List.set_cons_succ])
       |(apply cg
         ·rfl
         ·(intro w A0; obtain⟨c0,c1,c2⟩:=HK.out w A0; first|(go_simp; done)|(go_simp; with_reducible rfl))
         simp only[Act.put,List.setIfInBounds_toArray,List.set_cons_zero,List.set_cons_succ]))
      refine ch ?_;intro w' A3;go_wp2_with fail
      go_meet;exact⟨by rw[hq.out],A3⟩
     |true=>
      rw[hn] at HC hb;clear hn;cases i with
      |zero=>
       have hq:=aa (show bad=ln from hb.out);have g0:decide ((0:Int)<((0:Nat):Int))=false:=rfl;have HK:=aa (fun (W:World) (b:Below w6.heap.size w6 W)=>And.intro (ab (ag b A5.out) 0 _ rfl) (And.intro (ab (ag b A5.out) 1 _ rfl) trivial));clear hb;refine bj (fun w'=>Below w6.heap.size w6 w') (by kernel_rfl) (by kernel_rfl) A4 ?_;repeat (first
        |(refine br ?_ ?_
          ·rfl
          simp only[Act.put,List.setIfInBounds_toArray,List.set_cons_zero,List.set_cons_succ])
        |(apply az 33 #[.string x.1]
          ·rfl
          ·(intro w A0; obtain⟨c0,c1,c2⟩:=HK.out w A0; go_simp; done)
          ·(intro w A0; exact(HC.out w).mono fun e w'' h=>⟨h.1,Below.more A0 h.2⟩)
          simp only[Act.put,List.setIfInBounds_toArray,List.set_cons_zero,List.set_cons_succ])
        |(apply cg
          ·rfl
          ·(intro w A0; obtain⟨c0,c1,c2⟩:=HK.out w A0; first|(go_simp; done)|(go_simp; with_reducible rfl))
          simp only[Act.put,List.setIfInBounds_toArray,List.set_cons_zero,List.set_cons_succ]))
       refine ch ?_;intro w' A3;go_wp2_with fail
       go_meet;exact⟨by rw[hq.out],A3⟩
      |succ j=>
       clear wi;obtain⟨y,hy⟩:∃ y,F[j]? = some y:=⟨_,List.getElem?_eq_getElem (by have:=HI.out; omega)⟩
       obtain⟨fb',fo',sv',e, -,⟨y0, -⟩, -, -⟩:=HF.out j y hy;obtain⟨rfl,rfl⟩:fb=fb'∧fo=fo':=by simpa using e
       have HK:=aa (fun (W:World) (b:Below w6.heap.size w6 W)=>And.intro (ab (ag b A5.out) 0 _ rfl) (And.intro (ab (ag b A5.out) 1 _ rfl) (ax (Below.more D4.out b) _ _ y0)));have B2:Hid (Fd.prevBad F (j+1) x.1 = !Op.bytesLess y.1.toList x.1.toList):=aa (by show(!Fd.lt (Fd.at' F j).1 x.1)=_; rw[Fd.at_eq hy]; rfl);have hq:=aa (show bad=(!Op.bytesLess y.1.toList x.1.toList || ln) by rw[hb.out,B2.out]; rfl);have g0:decide ((0:Int)<((j+1:Nat):Int))=true:=decide_eq_true (by omega);have g0n:decide (0<j+1)=true:=decide_eq_true (by omega);have g5:(0:Int)≤(j:Int):=by omega
       have g6:(j:Int)<(F.length:Int):=by have:=HI.out; omega
       have g3:IntKind.i64.wrap (j:Int)=(j:Int):=IntWalk.i64_in _ (by omega);have g4:IntKind.i64.wrap (((j+1:Nat):Int) - 1)=(j:Int):=by rw[IntWalk.i64_in _ (by omega)]; omega
       clear hb B2 hy e y0 j1 j2 hi;cases hlt:Op.bytesLess y.1.toList x.1.toList with
       |true=>
        rw[hlt] at hq;refine bj (fun w'=>Below w6.heap.size w6 w') (by kernel_rfl) (by kernel_rfl) A4 ?_;repeat (first
         |(refine br ?_ ?_
           ·rfl
           simp only[Act.put,List.setIfInBounds_toArray,List.set_cons_zero,List.set_cons_succ])
         |(apply az 33 #[.string x.1]
           ·rfl
           ·(intro w A0; obtain⟨c0,c1,c2⟩:=HK.out w A0; go_simp; done)
           ·(intro w A0; exact(HC.out w).mono fun e w'' h=>⟨h.1,Below.more A0 h.2⟩)
           simp only[Act.put,List.setIfInBounds_toArray,List.set_cons_zero,List.set_cons_succ])
         |(apply cg
           ·rfl
           ·(intro w A0; obtain⟨c0,c1,c2⟩:=HK.out w A0; first|(go_simp; done)|(go_simp; with_reducible rfl))
           simp only[Act.put,List.setIfInBounds_toArray,List.set_cons_zero,List.set_cons_succ]))
        refine ch ?_;intro w' A3;go_wp2_with fail
        go_meet;exact⟨by rw[hq.out]; rfl,A3⟩
       |false=>
        rw[hlt] at hq;refine bj (fun w'=>Below w6.heap.size w6 w') (by kernel_rfl) (by kernel_rfl) A4 ?_;repeat (first
         |(refine br ?_ ?_
           ·rfl
           simp only[Act.put,List.setIfInBounds_toArray,List.set_cons_zero,List.set_cons_succ])
         |(apply az 33 #[.string x.1]
           ·rfl
           ·(intro w A0; obtain⟨c0,c1,c2⟩:=HK.out w A0; go_simp; done)
           ·(intro w A0; exact(HC.out w).mono fun e w'' h=>⟨h.1,Below.more A0 h.2⟩)
           simp only[Act.put,List.setIfInBounds_toArray,List.set_cons_zero,List.set_cons_succ])
         |(apply cg
           ·rfl
           ·(intro w A0; obtain⟨c0,c1,c2⟩:=HK.out w A0; first|(go_simp; done)|(go_simp; with_reducible rfl))
           simp only[Act.put,List.setIfInBounds_toArray,List.set_cons_zero,List.set_cons_succ]))
        refine ch ?_;intro w' A3;go_wp2_with fail
        go_meet;exact⟨by rw[hq.out]; rfl,A3⟩
    case rest=>
     obtain⟨rfl,C7⟩:=hcut;have C0:=aa (ag C7.out A5.out);have F5:=aa (B7.out.below C7.out);have D2:=aa (Below.more D4.out C7.out);clear z0 z1 A5 B7 D4 C7;cases hbad2:bad with
     |true=>
      have B3:¬Fd.Ok F:=fun ok=>Fd.head_bad HI.out (A1.out.symm.trans hbad2) (ok.2 i x HX.out);have e:=aa (Fd.right_no B3);clear B3 hbad2;go_wp2_with fail
      go_ret;exact⟨by rw[e.out]; rfl,D2.out⟩
     |false=>
      have HG:=aa (show Fd.headBad F i x=false from A1.out.symm.trans hbad2);have D3:=aa (show ∀ k,k<0→∀ s,x.2[k]? = some s→Fd.StampOk x.2 k s from fun k hk=>by omega);have z1:=ab C0.out 1 _ rfl;clear A1 hbad2;go_wp2_with fail
      clear z1;go_loopw [45] (fun kv wz=>∃ k:Nat,kv=.int .i64 (k:Int)∧k≤x.2.length∧Hid (∀ m,m<k→∀ s,x.2[m]? = some s→Fd.StampOk x.2 m s)∧Hid (Below wc.heap.size wc wz)) (fun kv _=>x.2.length - (intOf kv).toNat)
      case atStart=>exact⟨0,rfl,Nat.zero_le _,D3,Below.refl _ _⟩
      case round=>
       obtain⟨k,rfl,hk,E4,HZ⟩:=hrel;clear wi;by_cases C2:k<x.2.length
       ·obtain⟨z,hz⟩:∃ z,x.2[k]? = some z:=⟨_,List.getElem?_eq_getElem C2⟩
        have F4:=aa (F5.out.below HZ.out);obtain⟨sp',sc',e, -,B1⟩:=F4.out;obtain⟨rfl,rfl⟩:sp=sp'∧sc=sc':=by simpa using e
        obtain⟨sb,so,rfl, -,⟨y0,y1⟩, -, -⟩:=B1 k z hz;have C5:=aa B1;have E6:=aa (ag HZ.out C0.out);have k1:(0:Int)≤(k:Int):=by omega
        have k2:(k:Int)<(x.2.length:Int):=by omega
        have E3:=aa hz;have B8:=aa C2;have wk:IntKind.i64.wrap ((k:Int)+1)=(k:Int)+1:=IntWalk.i64_in _ (by have:=C6.out; unfold maxLen at this; omega);clear e B1 hz C2;go_upto_region 11 with(fail)
        have BX:=(Below.refl wr.heap.size wr).alloc (Nat.le_refl _) (.cells #[.int .i64 z.1,.int .i64 z.2] 114);have B4:=heap_alloc_new wr (.cells #[.int .i64 z.1,.int .i64 z.2] 114);have E7:=aa (Below.more HZ.out BX);have B0:=aa B4;have B9:=aa (ag BX E6.out);have E5:=aa (ax BX);clear BX B4 y0 y1 E6;generalize wr.alloc (.cells #[.int .i64 z.1,.int .i64 z.2] 114)=w9 at *;generalize wr.heap.size=zb at *;obtain⟨A2,A1⟩:∃ A2,Hid (A2=Fd.stampBad x.2 k z):=⟨_,rfl⟩
        go_cut [77] (fun v wx=>v=.bool A2∧Hid (Below w9.heap.size w9 wx));case first=>
         have hb:=aa (show A2=(!(decide (0≤z.1) && decide (z.1≤73048)) || (Fd.prevLate x.2 k z.1 || !(z.2 == Num.clamp z.2))) from A1.out);have A4:=(Below.refl w9.heap.size w9).drew;obtain⟨D,hD⟩:∃ D,(decide (0≤z.1) && decide (z.1≤73048))=D:=⟨_,rfl⟩
         obtain⟨cl,D1⟩:∃ cl,(z.2 == Num.clamp z.2)=cl:=⟨_,rfl⟩
         rw[hD,D1] at hb;have A6:=hD;have F0:(z.2 != Num.clamp z.2) = !cl:=by rw[←D1]; rfl
         have A7:=aa (fun (W:World) (b:Below w9.heap.size w9 W)=>And.intro (ab (ag b B0.out) 0 _ rfl) (And.intro (ab (ag b B0.out) 1 _ rfl) (ab (ag b B9.out) 1 _ rfl)));clear hD D1;cases D with
         |false=>
          have HK:=aa (fun (W:World) (b:Below w9.heap.size w9 W)=>And.intro (A7.out W b).1 (And.intro (A7.out W b).2.1 (And.intro (A7.out W b).2.2 trivial)));have hq:=aa (show A2=true from hb.out);clear hb wk;refine bj (fun w'=>Below w9.heap.size w9 w') (by kernel_rfl) (by kernel_rfl) A4 ?_;repeat (first
           |(refine br ?_ ?_
             ·rfl
             simp only[Act.put,List.setIfInBounds_toArray,List.set_cons_zero,List.set_cons_succ])
           |(apply az 29 #[.int .i64 z.1]
             ·rfl
             ·(intro w A0; obtain⟨c0,c1,c2,c3⟩:=HK.out w A0; go_simp; done)
             ·(intro w A0; exact(nw z.1 w).mono fun e w'' h=>⟨by rw[h.1,A6],by rw[h.2]; exact A0⟩)
             simp only[Act.put,List.setIfInBounds_toArray,List.set_cons_zero,List.set_cons_succ])
           |(apply az 36 #[.int .i64 z.2]
             ·rfl
             ·(intro w A0; obtain⟨c0,c1,c2,c3⟩:=HK.out w A0; go_simp; done)
             ·(intro w A0; exact(fg z.2 w).mono fun e w'' h=>⟨h.1,by rw[h.2]; exact A0⟩)
             simp only[Act.put,List.setIfInBounds_toArray,List.set_cons_zero,List.set_cons_succ])
           |(apply cg
             ·rfl
             ·(intro w A0; obtain⟨c0,c1,c2,c3⟩:=HK.out w A0; first|(go_simp; done)|(go_simp; with_reducible rfl))
             simp only[Act.put,List.setIfInBounds_toArray,List.set_cons_zero,List.set_cons_succ]))
          refine ch ?_;intro w' A3;go_wp2_with fail
          go_meet;exact⟨by rw[hq.out],A3⟩
         |true=>
          cases k with
          |zero=>
           have HK:=aa (fun (W:World) (b:Below w9.heap.size w9 W)=>And.intro (A7.out W b).1 (And.intro (A7.out W b).2.1 (And.intro (A7.out W b).2.2 trivial)));have g0:decide ((0:Int)<((0:Nat):Int))=false:=rfl;have hq:=aa (show A2 = !cl from hb.out);clear hb wk;refine bj (fun w'=>Below w9.heap.size w9 w') (by kernel_rfl) (by kernel_rfl) A4 ?_;repeat (first
            |(refine br ?_ ?_
              ·rfl
              simp only[Act.put,List.setIfInBounds_toArray,List.set_cons_zero,List.set_cons_succ])
            |(apply az 29 #[.int .i64 z.1]
              ·rfl
              ·(intro w A0; obtain⟨c0,c1,c2,c3⟩:=HK.out w A0; go_simp; done)
              ·(intro w A0; exact(nw z.1 w).mono fun e w'' h=>⟨by rw[h.1,A6],by rw[h.2]; exact A0⟩)
              simp only[Act.put,List.setIfInBounds_toArray,List.set_cons_zero,List.set_cons_succ])
            |(apply az 36 #[.int .i64 z.2]
              ·rfl
              ·(intro w A0; obtain⟨c0,c1,c2,c3⟩:=HK.out w A0; go_simp; done)
              ·(intro w A0; exact(fg z.2 w).mono fun e w'' h=>⟨h.1,by rw[h.2]; exact A0⟩)
              simp only[Act.put,List.setIfInBounds_toArray,List.set_cons_zero,List.set_cons_succ])
            |(apply cg
              ·rfl
              ·(intro w A0; obtain⟨c0,c1,c2,c3⟩:=HK.out w A0; first|(go_simp; done)|(go_simp; with_reducible rfl))
              simp only[Act.put,List.setIfInBounds_toArray,List.set_cons_zero,List.set_cons_succ]))
           refine ch ?_;intro w' A3;go_wp2_with fail
           go_meet;exact⟨by rw[hq.out],A3⟩
          |succ m=>
           clear wk;obtain⟨u,hu⟩:∃ u,x.2[m]? = some u:=⟨_,List.getElem?_eq_getElem (by have:=B8.out; omega)⟩
           obtain⟨sb',so',e, -,⟨y0, -⟩, -, -⟩:=C5.out m u hu;obtain⟨rfl,rfl⟩:sb=sb'∧so=so':=by simpa using e
           have HK:=aa (fun (W:World) (b:Below w9.heap.size w9 W)=>And.intro (A7.out W b).1 (And.intro (A7.out W b).2.1 (And.intro (A7.out W b).2.2 (ax b _ _ (E5.out _ _ y0)))));have B2:Hid (Fd.prevLate x.2 (m+1) z.1=decide (z.1≤u.1)):=aa (by show decide (z.1≤(Fd.stampAt x.2 m).1)=_; rw[Fd.stampAt_eq hu]);have hq:=aa (show A2=(decide (z.1≤u.1) || !cl) by rw[hb.out,B2.out]; rfl);have g0:decide ((0:Int)<((m+1:Nat):Int))=true:=decide_eq_true (by omega);have g0n:decide (0<m+1)=true:=decide_eq_true (by omega);have g5:(0:Int)≤(m:Int):=by omega
           have g6:(m:Int)<(x.2.length:Int):=by have:=B8.out; omega
           have g3:IntKind.i64.wrap (m:Int)=(m:Int):=IntWalk.i64_in _ (by have:=C6.out; unfold maxLen at this; omega);have g4:IntKind.i64.wrap (((m+1:Nat):Int) - 1)=(m:Int):=by rw[IntWalk.i64_in _ (by have:=C6.out; unfold maxLen at this; omega)]; omega
           obtain⟨C8,hlt⟩:∃ C8,decide (z.1≤u.1)=C8:=⟨_,rfl⟩
           rw[hlt] at hq;clear hb B2 hu e y0 k1 k2 hk;cases C8 with
           |true=>
            refine bj (fun w'=>Below w9.heap.size w9 w') (by kernel_rfl) (by kernel_rfl) A4 ?_;repeat (first
             |(refine br ?_ ?_
               ·rfl
               simp only[Act.put,List.setIfInBounds_toArray,List.set_cons_zero,List.set_cons_succ])
             |(apply az 29 #[.int .i64 z.1]
               ·rfl
               ·(intro w A0; obtain⟨c0,c1,c2,c3⟩:=HK.out w A0; go_simp; done)
               ·(intro w A0; exact(nw z.1 w).mono fun e w'' h=>⟨by rw[h.1,A6],by rw[h.2]; exact A0⟩)
               simp only[Act.put,List.setIfInBounds_toArray,List.set_cons_zero,List.set_cons_succ])
             |(apply az 36 #[.int .i64 z.2]
               ·rfl
               ·(intro w A0; obtain⟨c0,c1,c2,c3⟩:=HK.out w A0; go_simp; done)
               ·(intro w A0; exact(fg z.2 w).mono fun e w'' h=>⟨h.1,by rw[h.2]; exact A0⟩)
               simp only[Act.put,List.setIfInBounds_toArray,List.set_cons_zero,List.set_cons_succ])
             |(apply cg
               ·rfl
               ·(intro w A0; obtain⟨c0,c1,c2,c3⟩:=HK.out w A0; first|(go_simp; done)|(go_simp; with_reducible rfl))
               simp only[Act.put,List.setIfInBounds_toArray,List.set_cons_zero,List.set_cons_succ]))
            refine ch ?_;intro w' A3;go_wp2_with fail
            go_meet;exact⟨by rw[hq.out]; rfl,A3⟩
           |false=>
            refine bj (fun w'=>Below w9.heap.size w9 w') (by kernel_rfl) (by kernel_rfl) A4 ?_;repeat (first
             |(refine br ?_ ?_
               ·rfl
               simp only[Act.put,List.setIfInBounds_toArray,List.set_cons_zero,List.set_cons_succ])
             |(apply az 29 #[.int .i64 z.1]
               ·rfl
               ·(intro w A0; obtain⟨c0,c1,c2,c3⟩:=HK.out w A0; go_simp; done)
               ·(intro w A0; exact(nw z.1 w).mono fun e w'' h=>⟨by rw[h.1,A6],by rw[h.2]; exact A0⟩)
               simp only[Act.put,List.setIfInBounds_toArray,List.set_cons_zero,List.set_cons_succ])
             |(apply az 36 #[.int .i64 z.2]
               ·rfl
               ·(intro w A0; obtain⟨c0,c1,c2,c3⟩:=HK.out w A0; go_simp; done)
               ·(intro w A0; exact(fg z.2 w).mono fun e w'' h=>⟨h.1,by rw[h.2]; exact A0⟩)
               simp only[Act.put,List.setIfInBounds_toArray,List.set_cons_zero,List.set_cons_succ])
             |(apply cg
               ·rfl
               ·(intro w A0; obtain⟨c0,c1,c2,c3⟩:=HK.out w A0; first|(go_simp; done)|(go_simp; with_reducible rfl))
               simp only[Act.put,List.setIfInBounds_toArray,List.set_cons_zero,List.set_cons_succ]))
            refine ch ?_;intro w' A3;go_wp2_with fail
            go_meet;exact⟨by rw[hq.out]; rfl,A3⟩
        case rest=>
         obtain⟨rfl,C1⟩:=hcut;have E2:=aa (Below.more E7.out C1.out);have F3:=aa (Below.more D2.out E2.out);clear B0 B9 E5 C1 E7;cases hb2:A2 with
         |true=>
          have B3:¬Fd.Ok F:=fun ok=>Fd.stamp_bad B8.out (A1.out.symm.trans hb2) ((ok.2 i x HX.out).stamps k z E3.out);have e:=aa (Fd.right_no B3);clear B3 hb2 wk;go_wp2_with fail
          go_ret;exact⟨by rw[e.out]; rfl,F3.out⟩
         |false=>
          have A9:=Fd.stamp_good (A1.out.symm.trans hb2);have A8:∀ m,m<k+1→∀ s,x.2[m]? = some s→Fd.StampOk x.2 m s:=fun m hm s hs=>by
           rcases(by omega:m<k∨m=k) with h|rfl
           ·exact E4.out m h s hs
           ·obtain rfl:z=s:=by have:=E3.out.symm.trans hs; simpa using this
            exact A9
          have HN:=aa A8;clear A9 A8 hb2;go_wp2_with fail
          go_roundw;case rel=>exact⟨k+1,by go_num,by have:=B8.out; omega,HN,E2⟩
          case measure=>have:=B8.out; simp[intOf]; omega
       ·obtain rfl:k=x.2.length:=by omega
        have D9:=Fd.feed_good HG.out (fun m s hm=>E4.out m (List.getElem?_eq_some_iff.1 hm).1 s hm);have F6:=aa (show ∀ j,j<i+1→∀ f,F[j]? = some f→Fd.FeedOk F j f from fun j hj f hf=>by
         rcases(by omega:j<i∨j=i) with h|rfl
         ·exact HA.out j h f hf
         ·obtain rfl:x=f:=by have:=HX.out.symm.trans hf; simpa using this
          exact D9)
        have j3:decide (x.2.length<x.2.length)=false:=by simp
        have wi:IntKind.i64.wrap ((i:Int)+1)=(i:Int)+1:=IntWalk.i64_in _ (by omega);clear D9 C2;go_wp2_with fail
        go_roundw;case rel=>exact⟨i+1,by go_num,by have:=HI.out; omega,F6,Below.more D2.out HZ.out⟩
        case measure=>have:=HI.out; simp[intOf]; omega
   ·obtain rfl:i=F.length:=by omega
    have e:=aa (Fd.right_yes (F:=F) ⟨F7.out,fun j f hj=>HA.out j (List.getElem?_eq_some_iff.1 hj).1 f hj⟩);have j3:decide (F.length<F.length)=false:=by simp
    clear C3;go_wp2_with fail
    go_ret;exact⟨by rw[e.out]; rfl,HW.out⟩
end
section
open Go.RowKit
open Gen
open Rw
set_option maxRecDepth 100000
namespace Vm
open Gen
def picksB (lab:ByteArray)(wh:Int):Bool:=Led.isName lab && (decide (wh=1) || decide (wh=2))
def noPick (lab:ByteArray)(wh:Int):Bool:=decide (lab=⟨#[]⟩) && decide (wh=0)
def holdBad (c:Cd)(x:Int × Int):Bool:=decide (x.1<0) || (decide ((c.waits.length:Int)≤x.1) || !(x.2 == Num.clamp x.2))
def zzd:Wt:=⟨0,0,⟨#[]⟩,0,0⟩
def waitAt (c:Cd)(n:Int):Wt:=(c.waits[n.toNat]?).getD zzd
def entryOf (c:Cd)(lab:ByteArray)(wh n:Int):Int:=
 if picksB lab wh=true∧(waitAt c n).label=lab then(if wh=1 then(waitAt c n).first else(waitAt c n).second) else(waitAt c n).entry
noncomputable def stepOk (c:Cd)(L:List (Int × Int))(day:Int)(F:List Fd.Feed)(lab:ByteArray)(wh:Int):Bool:=
 (picksB lab wh || noPick lab wh) && (right c && ((decide (0≤day) && decide (day≤73048)) && (Fd.right F && (decide (L.length≤250) && !L.any (holdBad c)))))
noncomputable def step (c:Cd)(L:List (Int × Int))(day:Int)(F:List Fd.Feed)(lab:ByteArray)(wh:Int):Option St:=
 if stepOk c L day F lab wh=true∧(all c (env F day) (entryOf c lab wh) L st0).over=false then some (all c (env F day) (entryOf c lab wh) L st0) else none
theorem entry_lt {c:Cd}(h:right c=true){x:Int × Int}(hx:holdBad c x=false){lab:ByteArray}{wh:Int}:0≤entryOf c lab wh x.1∧entryOf c lab wh x.1<c.ins.length:=by
 unfold holdBad at hx;simp only[Bool.or_eq_false_iff,decide_eq_false_iff_not] at hx;obtain⟨h1,h2,_⟩:=hx;have A2:x.1.toNat<c.waits.length:=by omega
 have hw:waitAt c x.1=c.waits[x.1.toNat]:=by unfold waitAt; rw[List.getElem?_eq_getElem A2]; rfl
 have A0:=List.getElem_mem A2;rw[←hw] at A0;have A1:=(du h).2.2.2.2.2.1 _ A0;unfold entryOf;split
 ·rename_i hp;unfold kz at A1;simp only[Bool.and_eq_true] at A1;have A3:¬(waitAt c x.1).label=⟨#[]⟩:=by
   rw[hp.2];intro e;have h3:=hp.1;unfold picksB at h3;rw[e,show Led.isName (⟨#[]⟩:ByteArray)=false from rfl] at h3;cases h3
  have h4:=A1.2.2;rw[if_neg A3] at h4;simp only[Bool.and_eq_true] at h4;split
  ·exact zdm h4.2.1
  ·exact zdm h4.2.2
 ·exact zjx h A0
theorem all_take (c:Cd)(E:Env)(entry:Int→Int)(l:List (Int × Int))(i:Nat)(x:Int × Int)(h:l[i]? = some x):all c E entry (l.take (i+1)) st0=run c E (entry x.1) x.2 zeros (all c E entry (l.take i) st0):=by
 have:l.take (i+1)=l.take i++[x]:=by
  rw[List.take_add_one,h]; rfl
 unfold all;rw[this,List.foldl_append];rfl
theorem st0_ok:StOk st0:=⟨by simp[st0],by simp[st0],by simp[st0],fun _=>by simp[st0]⟩
theorem run_ok2 (c:Cd)(E:Env)(hr:right c=true){a:Nat}(ha:a<c.ins.length)(f:Int){st:St}{i:Nat}(hs:StOk st)(hb:st.steps≤82000+i)(hi:i≤250):StOk (run c E (a:Int) f zeros st)∧(run c E (a:Int) f zeros st).steps≤82000+(i+1):=by
 have hn:c.ins.length≤16384:=(du hr).2.2.2.1;cases ho:st.over with
 |true=>
  rw[run_out _ _ _ _ _ (.inr ho)];obtain⟨k1,k2,k3,k4⟩:=hs;exact⟨⟨by simp only; omega,by simp only; omega,by simp only; omega,fun h=>by cases h⟩,by simp only; omega⟩
 |false=>
  have:=run_ok c E hr _ a f zeros st (Nat.le_refl _) ha hs ho;exact⟨this.1,by omega⟩
end Vm
def oq:Value:=.tuple #[.slice none 0 0,.slice none 0 0,.int .i64 0,.int .i64 180]
def te (st:Vm.St)(vh vo:Value):Value:=bif st.over then oq else .tuple #[vh,vo,.int .i64 (st.steps:Int),.int .i64 0]
theorem zik (W0:World)(mb:Nat)(c:Gen.Cd)(day:Int)(vw vi vf:Value)(st:Vm.St)(vh vo:Value)(w:World)(h:Mach W0 mb c day vw vi vf st vh vo w):
  Calls Tryz.prog 32 #[.pointer (some ⟨mb,0,none⟩)] w (ar (te st vh vo) w):=by
 have q5:=ab h.box 5 _ rfl;have q6:=ab h.box 6 _ rfl;have q7:=ab h.box 7 _ rfl;have q8:=ab h.box 8 _ rfl;obtain⟨H,O,s,o⟩:=st;obtain⟨hp,hc,rfl⟩:=dt h.hs;obtain⟨op,oc,rfl⟩:=dt h.ts;simp only at q5 q6 q7 q8;clear h;cases o with
 |true=>
  go_enter Tryz.func32,Tryz.ntmps32;go_wp2_with fail
  exact bodyPost_ret (et rfl _ _ _) rfl ⟨rfl,Below.refl _ _⟩
 |false=>
  go_enter Tryz.func32,Tryz.ntmps32;go_wp2_with fail
  go_quiet (fail)
  go_wp2_with fail
  exact bodyPost_ret (et rfl _ _ _) rfl ⟨rfl,Below.drewn (Below.refl _ _) _⟩
theorem zqx (c:Gen.Cd)(b5:Nat)(wp:Option Addr)(wc:Nat)(x:Int × Int)(W:World)(h5:W.cell? ⟨b5,1,none⟩=some (.slice wp c.waits.length wc)):
  Calls Tryz.prog 35 (#[.agg #[.int .i64 x.1,.int .i64 x.2]]++#[.pointer (some ⟨b5,0,none⟩)]) W (ar (.bool (Vm.holdBad c x)) W):=by
 obtain⟨n,f⟩:=x;have hb:=aa (show Vm.holdBad c (n,f)=(decide (n<0) || (decide ((c.waits.length:Int)≤n) || !(f == Num.clamp f))) from rfl);obtain⟨bad,A1⟩:∃ bad,Vm.holdBad c (n,f)=bad:=⟨_,rfl⟩
 rw[A1] at hb ⊢;clear A1;have HC:=aa (fun W=>fg f W);have B0:=(Below.refl W.heap.size W).alloc (Nat.le_refl _) (.cells #[.int .i64 n,.int .i64 f] 52);have A5:=aa (show(W.alloc (.cells #[.int .i64 n,.int .i64 f] 52)).heap[W.heap.size]? = some (.cells #[.int .i64 n,.int .i64 f] 52 (0,0)) from heap_alloc_new W _);have H5:=aa (ax B0 _ _ h5);have A6:=aa B0;obtain⟨cl,A3⟩:∃ cl,(f == Num.clamp f)=cl:=⟨_,rfl⟩
 rw[A3] at hb;have A8:(f != Num.clamp f) = !cl:=by rw[←A3]; rfl
 generalize Num.clamp f=g at *;clear A3 B0 h5;go_enter Tryz.func35,Tryz.ntmps35;go_upto_region 1 with(fail)
 generalize W.alloc (.cells #[.int .i64 n,.int .i64 f] 52)=w1 at *;obtain⟨xb,A7⟩:∃ xb,xb=W.heap.size:=⟨_,rfl⟩
 rw[←A7] at A5 ⊢;clear A7;have A4:=(Below.refl w1.heap.size w1).drew;have HK:=aa (fun (W':World) (b:Below w1.heap.size w1 W')=>And.intro (ab (ag b A5.out) 0 _ rfl) (And.intro (ab (ag b A5.out) 1 _ rfl) (ax b _ _ H5.out)));by_cases h1:n<0
 ·have g1:decide (n<0)=true:=decide_eq_true h1;rw[g1] at hb;have hq:=aa (show bad=true from hb.out);clear h1 hb;refine bj (fun w'=>Below w1.heap.size w1 w') (by kernel_rfl) (by kernel_rfl) A4 ?_;repeat (first
   |(refine br ?_ ?_
     ·rfl
     simp only[Act.put,List.setIfInBounds_toArray,List.set_cons_zero,List.set_cons_succ])
   |(apply az 36 #[.int .i64 f]
     ·rfl
     ·(intro w A0; obtain⟨c0,c1,c2⟩:=HK.out w A0; go_simp; done)
     ·(intro w A0; exact(HC.out w).mono fun e w'' h=>⟨h.1,by rw[h.2]; exact A0⟩)
     simp only[Act.put,List.setIfInBounds_toArray,List.set_cons_zero,List.set_cons_succ])
   |(apply cg
     ·rfl
     ·(intro w A0; obtain⟨c0,c1,c2⟩:=HK.out w A0; first|(go_simp; done)|(go_simp; with_reducible rfl))
     simp only[Act.put,List.setIfInBounds_toArray,List.set_cons_zero,List.set_cons_succ]))
  refine ch ?_;intro w' A2;go_wp2_with fail
  go_ret;exact⟨by rw[hq.out]; rfl,Below.more A6.out A2⟩
 ·have g1:decide (n<0)=false:=decide_eq_false h1;rw[g1] at hb;by_cases h2:(c.waits.length:Int)≤n
  ·have g2:decide ((c.waits.length:Int)≤n)=true:=decide_eq_true h2;rw[g2] at hb;have hq:=aa (show bad=true from hb.out);clear h1 h2 hb;refine bj (fun w'=>Below w1.heap.size w1 w') (by kernel_rfl) (by kernel_rfl) A4 ?_;repeat (first
    |(refine br ?_ ?_
      ·rfl
      simp only[Act.put,List.setIfInBounds_toArray,List.set_cons_zero,List.set_cons_succ])
    |(apply az 36 #[.int .i64 f]
      ·rfl
      ·(intro w A0; obtain⟨c0,c1,c2⟩:=HK.out w A0; go_simp; done)
      ·(intro w A0; exact(HC.out w).mono fun e w'' h=>⟨h.1,by rw[h.2]; exact A0⟩)
      simp only[Act.put,List.setIfInBounds_toArray,List.set_cons_zero,List.set_cons_succ])
    |(apply cg
      ·rfl
      ·(intro w A0; obtain⟨c0,c1,c2⟩:=HK.out w A0; first|(go_simp; done)|(go_simp; with_reducible rfl))
      simp only[Act.put,List.setIfInBounds_toArray,List.set_cons_zero,List.set_cons_succ]))
   refine ch ?_;intro w' A2;go_wp2_with fail
   go_ret;exact⟨by rw[hq.out]; rfl,Below.more A6.out A2⟩
  ·have g2:decide ((c.waits.length:Int)≤n)=false:=decide_eq_false h2;rw[g2] at hb;have hq:=aa (show bad = !cl from hb.out);clear h1 h2 hb;refine bj (fun w'=>Below w1.heap.size w1 w') (by kernel_rfl) (by kernel_rfl) A4 ?_;repeat (first
    |(refine br ?_ ?_
      ·rfl
      simp only[Act.put,List.setIfInBounds_toArray,List.set_cons_zero,List.set_cons_succ])
    |(apply az 36 #[.int .i64 f]
      ·rfl
      ·(intro w A0; obtain⟨c0,c1,c2⟩:=HK.out w A0; go_simp; done)
      ·(intro w A0; exact(HC.out w).mono fun e w'' h=>⟨h.1,by rw[h.2]; exact A0⟩)
      simp only[Act.put,List.setIfInBounds_toArray,List.set_cons_zero,List.set_cons_succ])
    |(apply cg
      ·rfl
      ·(intro w A0; obtain⟨c0,c1,c2⟩:=HK.out w A0; first|(go_simp; done)|(go_simp; with_reducible rfl))
      simp only[Act.put,List.setIfInBounds_toArray,List.set_cons_zero,List.set_cons_succ]))
   refine ch ?_;intro w' A2;go_wp2_with fail
   go_ret;exact⟨by rw[hq.out]; rfl,Below.more A6.out A2⟩
def zkh (o:Option Vm.St)(day:Int)(w:World)(e:Ending)(w':World):Prop:=
 Below w.heap.size w w'∧match o with
  |none=>e=.returned oq
  |some st=>Vm.StOk st∧∃ vh vo,e=.returned (.tuple #[vh,vo,.int .i64 (st.steps:Int),.int .i64 0])∧mq w.heap.size w' vh st.holds∧TranRow w.heap.size w' vo day st.out
set_option maxHeartbeats 4000000 in
theorem zhv (c:Gen.Cd)(b5:Nat)(wp:Option Addr)(wc:Nat)(vl:Value)(L:List (Int × Int))(W:World)(h5:W.cell? ⟨b5,1,none⟩=some (.slice wp c.waits.length wc))(hl:StampsAt W vl L):
  Calls Tryz.prog 65 #[vl,.func (.func 35) #[] #[.pointer (some ⟨b5,0,none⟩)]] W fun e w'=>(∃ k:Int,e=.returned (.int .i64 k)∧decide (0≤k)=L.any (Vm.holdBad c))∧Below W.heap.size W w':=by
 obtain⟨lp,lc,rfl,⟨A4,A3⟩,hc⟩:=hl;have HC:=aa hc;have H5:=aa h5;have A5:(L.length:Int)≤9223372036854775807:=by unfold maxLen at A3; omega
 have A6:=aa (show ∀ j,j<0→∀ x,L[j]? = some x→Vm.holdBad c x=false from fun j hj=>by omega);clear hc h5 A4 A3;go_enter Tryz.func65,Tryz.ntmps65;go_wp2_with fail
 go_loopw [8] (fun iv wr=>∃ i:Nat,iv=.int .i64 (i:Int)∧i≤L.length∧Hid (∀ j,j<i→∀ x,L[j]? = some x→Vm.holdBad c x=false)∧Hid (Below W.heap.size W wr)) (fun iv _=>L.length - (intOf iv).toNat)
 case atStart=>exact⟨0,rfl,Nat.zero_le _,A6,Below.refl _ _⟩
 case round=>
  obtain⟨i,rfl,hi,HA,HW⟩:=hrel;by_cases A1:i<L.length
  ·obtain⟨x,hx⟩:∃ x,L[i]? = some x:=⟨_,List.getElem?_eq_getElem A1⟩
   obtain⟨lb,lo,rfl, -,⟨y0,y1⟩, -, -⟩:=HC.out i x hx;replace y0:=ax HW.out _ _ y0;replace y1:=ax HW.out _ _ y1;have j1:(0:Int)≤(i:Int):=by omega
   have j2:(i:Int)<(L.length:Int):=by omega
   have wi:IntKind.i64.wrap ((i:Int)+1)=(i:Int)+1:=IntWalk.i64_in _ (by omega);have HF:=aa (zqx c b5 wp wc x wr (ax HW.out _ _ H5.out));have HX:=aa hx;have HI:=aa A1;clear hx A1;cases hb:Vm.holdBad c x with
   |true=>
    rw[hb] at HF;have A0:=aa (show L.any (Vm.holdBad c)=true from List.any_eq_true.2 ⟨x,List.mem_of_getElem? HX.out,hb⟩);clear hb;go_wp2_with (first|(go_at_call 35; refine HF.out.mono ?_; rintro e w2 ⟨rfl,b2⟩; have A2:=aa (Below.more HW.out b2); clear b2))
    go_ret;exact⟨⟨_,rfl,by rw[A0.out]; exact decide_eq_true j1⟩,A2.out⟩
   |false=>
    rw[hb] at HF;have HN:=aa (show ∀ j,j<i+1→∀ z,L[j]? = some z→Vm.holdBad c z=false from fun j hj z hz=>by
     rcases(by omega:j<i∨j=i) with h|rfl
     ·exact HA.out j h z hz
     ·obtain rfl:x=z:=by have:=HX.out.symm.trans hz; simpa using this
      exact hb)
    clear hb;go_wp2_with (first|(go_at_call 35; refine HF.out.mono ?_; rintro e w2 ⟨rfl,b2⟩; have A2:=aa (Below.more HW.out b2); clear b2))
    go_roundw;case rel=>exact⟨i+1,by go_num,by have:=HI.out; omega,HN,A2⟩
    case measure=>have:=HI.out; simp[intOf]; omega
  ·obtain rfl:i=L.length:=by omega
   have A0:=aa (show L.any (Vm.holdBad c)=false by
    rw[List.any_eq_false];intro x hx;obtain⟨j,hj⟩:=List.getElem?_of_mem hx;rw[HA.out j (List.getElem?_eq_some_iff.1 hj).1 x hj];exact Bool.false_ne_true)
   have j3:decide (L.length<L.length)=false:=by simp
   clear A1;go_wp2_with fail
   go_ret;exact⟨⟨-1,rfl,by rw[A0.out]; rfl⟩,HW.out⟩
theorem zdw (c:Gen.Cd)(b5:Nat)(wp:Option Addr)(wc:Nat)(vl:Value)(L:List (Int × Int))(W:World)(h5:W.cell? ⟨b5,1,none⟩=some (.slice wp c.waits.length wc))(hl:StampsAt W vl L):
  Calls Tryz.prog 34 #[vl,.func (.func 35) #[] #[.pointer (some ⟨b5,0,none⟩)]] W (ar (.bool (L.any (Vm.holdBad c))) W):=by
 have HI:=aa (zhv c b5 wp wc vl L W h5 hl);clear h5 hl;generalize L.any (Vm.holdBad c)=r at *;go_enter Tryz.func34,Tryz.ntmps34;go_wp2_with (first|(go_at_call 65; refine HI.out.mono ?_; rintro e w2 ⟨⟨k,rfl,hk⟩,b2⟩))
 go_ret;exact⟨by rw[←hk]; rfl,b2⟩
end
end Go.Proofs.YtanlmbbalamgkaaGreatDoor
