/- Proved: lemmas and contracts of the functions that the law reaches, part 15 of 36: GenSmall, CauTree, CauSmallT. Conditions: as each states. -/
import Derived.RangeFuncNested
import Derived.RangeFuncBound
import Derived.Shelf.RegionOpen
import Derived.OwnWalkIn
import Derived.LoopNIn
import Derived.LoopIn
import Derived.Test.YtanlmbbalamgkaaGreatDoorVmi3
import Derived.Test.YtanlmbbalamgkaaGreatDoorVmi11
namespace Go.Proofs.YtanlmbbalamgkaaGreatDoor
set_option linter.unusedVariables false
set_option linter.unusedSimpArgs false
section
open Go.RowKit Go.Shelf
set_option maxRecDepth 100000
attribute [local go_sem] Oper.semAt_some
theorem zbj (P:Program)(w:World)(a:Addr)(m:Mode)(f:Fn)(ts cs:Array Value):(store a (.func f ts cs) m).run P w=stored P w a (.func f ts cs) m:=run_store P w a _ m rfl
attribute [local go_sem] zbj
def zbv (op n:Int)(s:ByteArray):Value:=.agg #[.int .i64 op,.int .i64 n,.string s,.slice none 0 0]
theorem zsp {F:Fence}(hd:F.depth=none)(k:Nat):F.room k:=fun d h=>by rw[hd] at h; cases h
theorem RoundIn.anyDepth {F:Fence}(hd:F.depth=none){m m':Nat}{P:Program}{l:Nat}{f:FuncId}{tmps:Array Value}{assign body:Code}{w:World}{R:Ending→World→Prop}
  (h:RoundIn F m P l f tmps assign body w R):RoundIn F m' P l f tmps assign body w R:=⟨h.1,fun c cs _=>h.2 c cs (zsp hd _)⟩
theorem zfe {β:Type}{B:Nat}{J:β→World→Prop}(hJ:AbidesFrom B J){s:β}{W W':World}(h:J s W)(hb:Below W.heap.size W W'):J s W':=
 hJ s W W' none h ⟨hb.os,hb.tape,hb.output,hb.size,fun k hk _=>hb.block k hk⟩ (fun r e=>by cases e)
def KpC (n₀:Nat)(W W':World):Prop:=Below n₀ W W'∧∀(k:Nat) (cur:Array Value) (t:TypeId),(t=24∨t=135∨t=37)→W.heap[k]? = some (.cells cur t (0,0))→W'.heap[k]? = W.heap[k]?
theorem KpC.trans {n₀:Nat}{A B C:World}(h:KpC n₀ A B)(k:KpC n₀ B C):KpC n₀ A C:=
 ⟨h.1.trans k.1,fun j cur t ht hj=>(k.2 j cur t ht ((h.2 j cur t ht hj).trans hj)).trans (h.2 j cur t ht hj)⟩
theorem zwz {n₀:Nat}{w:World}(hn:n₀≤w.heap.size)(W:World)(l:Nat)(o o':Obj)(hl:w.heap.size≤l)(h:W.heap[l]? = some o)(ho:o.isCells=false)(hw:o.isWalk=false):KpC n₀ W (W.putObj l o'):=
 ⟨belowK_b hn W l o o' hl h ho hw,fun k cur t _ hk=>World.putObj_heap_other (by rintro rfl; rw[hk] at h; cases h; cases ho)⟩
theorem zab {W:World}{b:Nat}{x y z u:Value}{t:TypeId}(h:W.heap[b]? = some (.cells #[x,y,z,u] t (0,0))):
  W.cell? ⟨b,0,none⟩=some x∧W.cell? ⟨b,1,none⟩=some y∧W.cell? ⟨b,2,none⟩=some z∧W.cell? ⟨b,3,none⟩=some u:=
 ⟨by simp[World.cell?,h],by simp[World.cell?,h],by simp[World.cell?,h],by simp[World.cell?,h]⟩
set_option maxHeartbeats 2000000 in
theorem qbg (l B n₀ By Bs:Nat)(op n:Int)(s:ByteArray)(J Jx:List Unit→World→Prop)(W:World)(hJ:AbidesFrom B J)(hByl:By<W.heap.size)(hBy:W.cell? ⟨By,0,none⟩=some (.func (.yield l) #[] #[]))
  (hY:∀ pre x W1,J pre W1→pre.length<1→YieldAt Fence.wide 5 Tryz.prog l #[.int .i64 1,zbv op n s] W1 fun e W'=>(e=.returned (.bool true)∧J (pre++[x]) W'∧KpC n₀ W1 W')∨(e=.returned (.bool false)∧Jx (pre++[x]) W'))
  (h0:J [] W) (hn:n₀≤W.heap.size):
  CallsIn Fence.wide 5 Tryz.prog 100 #[zbv op n s,.int .i64 1,.pointer (some ⟨By,0,none⟩),.pointer (some ⟨Bs,0,none⟩)] W fun e W'=>
   (e=.returned (.bool true)∧J [()] W'∧KpC n₀ W W')∨(e=.returned (.bool false)∧Jx [()] W'):=by
 have HY:=hid' hY
 have HJ:=hid' hJ
 have H0:=hid' h0
 clear hY hJ h0
 refine callsIn_of_wp Tryz.func100 rfl trivial ?_ rfl
 simp only[Tryz.ntmps100,List.size_toArray,List.length_cons,List.length_nil,Nat.reduceAdd,Nat.reduceSub,Array.replicate_succ,Array.replicate_zero,List.push_toArray,List.append_toArray,List.nil_append,List.cons_append,zbv]
 have hB1:Below W.heap.size W (W.alloc (.cells #[.int .i64 op,.int .i64 n,.string s,.slice none 0 0] 24)):=(Below.refl _ _).alloc (Nat.le_refl _) _
 have hBy1:=(hB1.cell (p:=⟨By,0,none⟩) hByl).trans hBy
 have hb:=heap_alloc_new W (.cells #[.int .i64 op,.int .i64 n,.string s,.slice none 0 0] 24)
 obtain⟨x0,x1,x2,x3⟩:=zab hb
 have hJ1:=zfe HJ.out H0.out hB1
 obtain⟨fn,tmps,assign,body,hy,hR⟩:=HY.out [] () _ hJ1 (by simp)
 rw[zbv] at hy
 have HB1:=hid' hB1
 have HB:=hid' hb
 have HR:=hid' hR
 clear hJ1 hB1 hb hR
 gi_wp2
 refine(RoundIn.anyDepth rfl HR.out).mono ?_
 rintro e W3 (⟨rfl,hJ3,hk3⟩|⟨rfl,hJx3⟩)
 ·obtain⟨y0,y1,y2,y3⟩:=zab ((hk3.2 _ _ _ (.inl rfl) HB.out).trans HB.out)
  have HK:=hid' hk3
  have HJ3:=hid' hJ3
  clear hk3 hJ3 x0 x1 x2 x3
  gi_wp2
  gi_loopw [17] (fun iv wr=>iv=.int .i64 0∧wr=W3) (fun _ _=>0)
  case atStart=>exact⟨rfl,rfl⟩
  case round=>
   obtain⟨rfl,rfl⟩:=hrel
   gi_wp2
   go_ret
   exact .inl ⟨rfl,HJ3.out,KpC.trans ⟨HB1.out.mono hn,fun k cur t _ hk=>HB1.out.block k (zac hk)⟩ HK.out⟩
 ·gi_wp2
  go_ret
  exact .inr ⟨rfl,hJx3⟩
def zwe (op n:Int)(s:ByteArray):Unit→Array Value:=fun _=>#[.int .i64 1,zbv op n s]
theorem qgb (F:Fence)(n:Nat)(h5:F.fn 48)(hro:F.round=none)(op k:Int)(s:ByteArray)(w:World):
  CallsIn F n Tryz.prog 48 #[zbv op k s] w fun e w'=>e=.returned (.func (.func 99) #[] #[.pointer (some ⟨w.heap.size,0,none⟩)])∧w'=w.alloc (.cells #[.int .i64 op,.int .i64 k,.string s,.slice none 0 0] 24):=by
 refine callsIn_of_wp Tryz.func48 rfl h5 ?_ hro
 simp only[Tryz.ntmps48,List.size_toArray,List.length_cons,List.length_nil,Nat.reduceAdd,Nat.reduceSub,Array.replicate_succ,Array.replicate_zero,List.push_toArray,List.append_toArray,List.nil_append,List.cons_append,zbv]
 gi_wp2
 go_ret
 exact⟨rfl,rfl⟩
set_option maxHeartbeats 2000000 in
theorem zxr (Bc n₀:Nat)(op n:Int)(s:ByteArray)(w:World)(hBc:w.heap[Bc]? = some (.cells #[.int .i64 op,.int .i64 n,.string s,.slice none 0 0] 24 (0,0)))(hn:n₀≤w.heap.size):
  SeqStopsK Fence.wide 6 Tryz.prog 99 #[.pointer (some ⟨Bc,0,none⟩)] (zwe op n s) (KpC n₀) (fun xs=>xs=[()]) (fun _=>True) 1 w:=by
 intro l J Jx W hW hJ hJx hY h0
 have HC:=hid' ((hW.block Bc (zac hBc)).trans hBc)
 have HY:=hid' hY
 have HJ:=hid' hJ
 have H0:=hid' h0
 have HW:=hid' hW
 clear hY hJ h0 hW hJx
 refine callsIn_of_wp Tryz.func99 rfl trivial ?_ rfl
 simp only[Tryz.ntmps99,List.size_toArray,List.length_cons,List.length_nil,Nat.reduceAdd,Nat.reduceSub,Array.replicate_succ,Array.replicate_zero,List.push_toArray,List.append_toArray,List.nil_append,List.cons_append]
 have bW:=Boxed.new (W.alloc (.cells #[.func (.yield l) #[] #[]] 135)) 37 .nilFunc
 simp only[World.size_alloc] at bW
 have z0:=bW.cell
 have z1:=bW.frozen
 have hB2:Below W.heap.size W ((W.alloc (.cells #[.func (.yield l) #[] #[]] 135)).alloc (.cells #[.func (.func 100) #[] #[.pointer (some ⟨W.heap.size,0,none⟩),.pointer (some ⟨W.heap.size+1,0,none⟩)]] 37)):=((Below.refl _ _).alloc (Nat.le_refl _) _).alloc (by simp) _
 have hB0:=(hB2.block Bc (zac HC.out)).trans HC.out
 obtain⟨x0,x1,x2,x3⟩:=zab hB0
 have hby:((W.alloc (.cells #[.func (.yield l) #[] #[]] 135)).alloc (.cells #[.func (.func 100) #[] #[.pointer (some ⟨W.heap.size,0,none⟩),.pointer (some ⟨W.heap.size+1,0,none⟩)]] 37)).cell? ⟨W.heap.size,0,none⟩=some (.func (.yield l) #[] #[]):=((Boxed.new W 135 (.func (.yield l) #[] #[])).alloc _).cell
 have hsz:W.heap.size<((W.alloc (.cells #[.func (.yield l) #[] #[]] 135)).alloc (.cells #[.func (.func 100) #[] #[.pointer (some ⟨W.heap.size,0,none⟩),.pointer (some ⟨W.heap.size+1,0,none⟩)]] 37)).heap.size:=by simp; omega
 have HONE:=hid' (qbg l W.heap.size n₀ W.heap.size (W.heap.size+1) op n s J Jx _ HJ.out hsz hby (fun pre x W1=>HY.out pre x W1) (zfe HJ.out H0.out hB2) (by have:=HW.out.size; simp; omega))
 clear hB2 hB0 hby hsz
 gi_wp2
 refine⟨trivial,HONE.out.mono ?_⟩
 rintro e W3 (⟨rfl,h1,h2⟩|⟨rfl,h1⟩)
 ·gi_wp2
  refine bodyPost_end (results_none rfl _ _ _) rfl ?_
  exact⟨⟨_,rfl⟩,.inl ⟨[()],rfl,h1⟩⟩
 ·gi_wp2
  refine bodyPost_end (results_none rfl _ _ _) rfl ?_
  exact⟨⟨_,rfl⟩,.inr ⟨[()],trivial,h1⟩⟩
set_option maxHeartbeats 2000000 in
theorem zll (op n:Int)(s:ByteArray)(w:World):
  Calls Tryz.prog 96 #[zbv op n s] w (zaj (.bool true) w):=by
 refine callsIn_wide.1 (show CallsIn Fence.wide 7 _ _ _ _ _ from ?_)
 have h1:1≤7:=by omega
 refine callsIn_of_wp_marks Tryz.func96 rfl trivial ?_ rfl
 simp only[Tryz.ntmps96,List.size_toArray,List.length_cons,List.length_nil,Nat.reduceAdd,Nat.reduceSub,Array.replicate_succ,Array.replicate_zero,List.push_toArray,List.append_toArray,List.nil_append,List.cons_append,zbv]
 have hnn:∀(p:Value) (w:World),(binOp BinOp.eql 100 (.func (.func 99) #[] #[p]) .nilFunc).run Tryz.prog w=.ok (.bool false) w:=fun _ _=>by kernel_rfl
 have f64:Fence.wide.fn 48:=trivial
 gi_wp2_with (gi_at_call 48; refine(qgb Fence.wide 6 trivial rfl op n s _).mono ?_; rintro e w' ⟨rfl,rfl⟩)
 have bR:=((Boxed.new (w.alloc (.cells #[.int .i64 op,.int .i64 n,.string s,.slice none 0 0] 24)) 4 (.bool false)).alloc (.cells #[.int .i64 0] 3)).alloc (.cells #[.int .i64 op,.int .i64 n,.string s,.slice none 0 0] 24)
 have bN:=(Boxed.new ((w.alloc (.cells #[.int .i64 op,.int .i64 n,.string s,.slice none 0 0] 24)).alloc (.cells #[.bool false] 4)) 3 (.int .i64 0)).alloc (.cells #[.int .i64 op,.int .i64 n,.string s,.slice none 0 0] 24)
 have bC:=heap_alloc_new (((w.alloc (.cells #[.int .i64 op,.int .i64 n,.string s,.slice none 0 0] 24)).alloc (.cells #[.bool false] 4)).alloc (.cells #[.int .i64 0] 3)) (.cells #[.int .i64 op,.int .i64 n,.string s,.slice none 0 0] 24)
 simp only[World.size_alloc] at bR bN bC
 have hB0:Below w.heap.size w ((((w.alloc (.cells #[.int .i64 op,.int .i64 n,.string s,.slice none 0 0] 24)).alloc (.cells #[.bool false] 4)).alloc (.cells #[.int .i64 0] 3)).alloc (.cells #[.int .i64 op,.int .i64 n,.string s,.slice none 0 0] 24)):=((((Below.refl _ w).alloc (Nat.le_refl _) _).alloc (by simp) _).alloc (by simp; omega) _).alloc (by simp; omega) _
 have hsz2:((((w.alloc (.cells #[.int .i64 op,.int .i64 n,.string s,.slice none 0 0] 24)).alloc (.cells #[.bool false] 4)).alloc (.cells #[.int .i64 0] 3)).alloc (.cells #[.int .i64 op,.int .i64 n,.string s,.slice none 0 0] 24)).heap.size=w.heap.size+4:=by simp
 obtain⟨W0,hW0⟩:∃ W0,((((w.alloc (.cells #[.int .i64 op,.int .i64 n,.string s,.slice none 0 0] 24)).alloc (.cells #[.bool false] 4)).alloc (.cells #[.int .i64 0] 3)).alloc (.cells #[.int .i64 op,.int .i64 n,.string s,.slice none 0 0] 24))=W0:=⟨_,rfl⟩
 rw[hW0] at bR bN bC hB0 hsz2 ⊢
 clear hW0
 refine wpIn_rangeFunc_ownH (F:=Fence.wide) rfl h1 (gf:=99) (lb:=#[.pointer (some ⟨w.heap.size+1+1+1,0,none⟩)]) rfl trivial (enters_of Tryz.func99 (by kernel_rfl) rfl)
  (zxr (w.heap.size+1+1+1) w.heap.size op n s W0 bC (by omega)) KpC.trans (zwz (by omega)) (Below.refl _ _) (fun _=>rfl)
  (fun (pre:List Unit) W=>(Boxed W (w.heap.size+1+1) 3 (.int .i64 (pre.length:Int))∧Boxed W (w.heap.size+1) 4 (.bool false))∧Below w.heap.size w W)
  (fun _ _ _=>False)
  (OwnFrom.and (OwnFrom.and (Own.from (boxed_own _ _ (fun (pre:List Unit)=>.int .i64 (pre.length:Int))) _) (Own.from (boxed_own _ _ (fun (_:List Unit)=>.bool false)) _)) (ownFrom_below (Nat.le_refl _) (by omega)))
  (fun _ _ _ _ _ hs _ _=>hs)
  ⟨⟨bN,bR⟩,hB0⟩
  (fun x a' W=>a' = { tmps:=#[.agg #[.int .i64 op,.int .i64 n,.string s,.slice none 0 0],.pointer (some ⟨w.heap.size,0,none⟩),.pointer (some ⟨w.heap.size+1,0,none⟩),.pointer (some ⟨w.heap.size+1+1,0,none⟩),.int .i64 1,.agg #[.int .i64 op,.int .i64 n,.string s,.slice none 0 0],.func (.func 99) #[] #[.pointer (some ⟨w.heap.size+1+1+1,0,none⟩)],.int .i64 1,.agg #[.int .i64 op,.int .i64 n,.string s,.slice none 0 0],undef,undef,undef,undef,undef,undef,undef,undef],defers:=[] })
  (fun x a' s X Y row hs hg hr=>hs)
  ?assign ?body ?done ?stop
 case assign=>
  rintro l pre x W K ⟨⟨hv,hc⟩,hB⟩ hK
  rw[show zwe op n s x=#[.int .i64 1,.agg #[.int .i64 op,.int .i64 n,.string s,.slice none 0 0]] from rfl]
  gi_wp2
  exact hK _ _ (KeepsFrom.refl _ _) ⟨Below.refl _ _,fun k cur t ht hk=>rfl⟩ ⟨⟨hv,hc⟩,hB⟩ rfl
 case body=>
  rintro l pre x a' W hl ⟨r,hr⟩ ⟨⟨hv,hcb⟩,hB⟩ rfl hlt
  have hp:pre.length=0:=by omega
  rw[hp] at hv
  have hc:=hv.cell
  have hf:=hv.frozen
  have HBW:=hid' hB
  have HV:=hid' hv
  have HC:=hid' hcb
  have hbx:∀ v':Value,∀(k:Nat) (cur:Array Value) (t:TypeId),(t=24∨t=135∨t=37)→W.heap[k]? = some (.cells cur t (0,0))→(W.setCell ⟨w.heap.size+1+1,0,none⟩ v').heap[k]? = W.heap[k]?:=by
   intro v' k cur t ht hk
   refine Below.heap_setCell _ _ _ k ?_
   rintro rfl
   have e:=hk.symm.trans (show W.heap[w.heap.size+1+1]? = _ from hv)
   simp at e
   rcases ht with h|h|h<;>exact absurd (h.symm.trans e.2) (by decide)
  have HBX:=hid' hbx
  clear hbx hB hv hcb hr
  gi_wp2
  refine⟨(KeepsOthers.setCell _ _ _).from _,⟨(Below.refl _ W).setCell (p:=⟨w.heap.size+1+1,0,none⟩) (by simp; omega) _,HBX.out _⟩,⟨?_,HC.out.other (by omega) _⟩,HBW.out.setCell (p:=⟨w.heap.size+1+1,0,none⟩) (by simp; omega) _⟩
  rw[List.length_append,hp]
  exact HV.out.set _
 case done=>
  rintro D ys W hD rfl ⟨⟨hv,hcb⟩,hB⟩ hK
  have hc:=hcb.cell
  have hf:=hcb.frozen
  gi_wp2
  have hd:(W.setCell ⟨w.heap.size+1,0,none⟩ (.bool true)).heap[D]? = some (.deferred (some [])):=(Below.heap_setCell _ _ _ D (by show D≠w.heap.size+1; omega)).trans hK
  refine⟨by simp,.inl ⟨_,_,rfl,run_takeDeferred hd,?_⟩⟩
  have hc2:((W.setCell ⟨w.heap.size+1,0,none⟩ (.bool true)).putObj D (.deferred none)).cell? ⟨w.heap.size+1,0,none⟩=some (.bool true):=((boxed_own (w.heap.size+1) 4 (fun (_:Unit)=>.bool true)).putObj (s:=()) _ (hcb.set (.bool true)) hd rfl).cell
  refine⟨.bool true,?_,rfl,(hB.setCell (p:=⟨w.heap.size+1,0,none⟩) (by simp) _).trans (belowK_b (w:=w) (Nat.le_refl _) _ D _ _ (by omega) hd rfl rfl)⟩
  simp[results,Tryz.results96,go_sem,hc2]
 case stop=>
  rintro D c pre W _ _ h _
  exact h.elim
end
section
open Go.RowKit Go.Shelf
set_option maxRecDepth 100000
attribute [local go_sem] Oper.semAt_some
attribute [local go_sem] zbj
abbrev Walked (B:Nat)(w0:World):Type:={ x:Int × Co.T × Value // CoreAt B w0 x.2.1 x.2.2 }
def Walked.pr {B:Nat}{w0:World}(x:Walked B w0):Int × Co.T:=(x.1.1,x.1.2.1)
def Walked.enc {B:Nat}{w0:World}(x:Walked B w0):Array Value:=#[.int .i64 x.1.1,x.1.2.2]
structure WalkIt (n₀:Nat)(w0:World)(J:List (Walked n₀ w0)→World→Prop)(t:Co.T)(d:Int)(pre:List (Walked n₀ w0))(W:World)(i:Nat)(ys:List (Walked n₀ w0))(wr:World):Prop where
 pr:ys.map Walked.pr=(d,t)::Co.alls (t.ks.take i) (d+1)
 J:J (pre++ys) wr
 kp:KpC n₀ W wr
theorem znr (l r:List Co.T)(d:Int):Co.alls (l++r) d=Co.alls l d++Co.alls r d:=by
 induction l with
 |nil=>rfl
 |cons a l ih=>rw[List.cons_append,Co.alls,Co.alls,ih,List.append_assoc]
theorem qau (t:Co.T)(d:Int):t.all d=(d,t)::Co.alls t.ks (d+1):=by cases t; rfl
theorem zsj {α:Type}{l:List α}{i:Nat}{k:α}(h:l[i]? = some k):l.take (i+1)=l.take i++[k]:=by
 rw[List.take_add_one,h]; rfl
theorem zwp {ks:List Co.T}{i:Nat}{k:Co.T}(h:ks[i]? = some k):Co.sizes (ks.take i)+k.size≤Co.sizes ks:=by
 induction ks generalizing i with
 |nil=>simp at h
 |cons a r ih=>
  cases i with
  |zero=>
   obtain rfl:a=k:=by simpa using h
   simp only[List.take_zero,Co.sizes]
   omega
  |succ i=>
   have:=ih (i:=i) (by simpa using h)
   simp only[List.take_succ_cons,Co.sizes]
   omega
theorem zvo (ks:List Co.T)(d:Int):(Co.alls ks d).length=Co.sizes ks:=by
 induction ks with
 |nil=>rfl
 |cons a r ih=>rw[Co.alls,Co.sizes,List.length_append,Co.all_length,ih]
theorem zuw {ks:List Co.T}{i:Nat}{k:Co.T}(h:ks[i]? = some k)(d:Int){m:List (Int × Co.T)}(hm:m <+: k.all d):Co.alls (ks.take i) d++m <+: Co.alls ks d:=by
 have e:ks=ks.take i++(k::ks.drop (i+1)):=by
  obtain⟨hlt,e⟩:=List.getElem?_eq_some_iff.1 h
  rw[←e,←List.drop_eq_getElem_cons hlt,List.take_append_drop]
 have e2:Co.alls ks d=Co.alls (ks.take i) d++(k.all d++Co.alls (ks.drop (i+1)) d):=by
  refine(congrArg (fun l=>Co.alls l d) e).trans ?_
  show Co.alls (ks.take i++(k::ks.drop (i+1))) d=_
  rw[znr,Co.alls]
 rw[e2]
 exact List.prefix_append_right_inj _ |>.2 (hm.trans (List.prefix_append _ _))
set_option maxHeartbeats 2000000 in
theorem qbh (l B n₀ By Bs N:Nat)(w0:World)(J Jx:List (Walked n₀ w0)→World→Prop)(hJ:AbidesFrom B J)
  (hY:∀ pre x W1,J pre W1→pre.length<N→YieldAt Fence.wide 5 Tryz.prog l (Walked.enc x) W1 fun e W'=>(e=.returned (.bool true)∧J (pre++[x]) W'∧KpC n₀ W1 W')∨(e=.returned (.bool false)∧Jx (pre++[x]) W'))
  (t:Co.T):∀(d:Int) (v:Value) (pre:List (Walked n₀ w0)) (W:World),CoreAt n₀ w0 t v→0≤d→d+t.size≤10000000→Below n₀ w0 W→n₀≤W.heap.size→B≤W.heap.size →
   W.heap[By]? = some (.cells #[.func (.yield l) #[] #[]] 135 (0,0)) →
   W.heap[Bs]? = some (.cells #[.func (.func 100) #[] #[.pointer (some ⟨By,0,none⟩),.pointer (some ⟨Bs,0,none⟩)]] 37 (0,0)) →
   J pre W→pre.length+t.size≤N →
  Calls Tryz.prog 100 #[v,.int .i64 d,.pointer (some ⟨By,0,none⟩),.pointer (some ⟨Bs,0,none⟩)] W fun e W'=>
   (e=.returned (.bool true)∧KpC n₀ W W'∧∃ ys,ys.map Walked.pr=t.all d∧J (pre++ys) W')∨(e=.returned (.bool false)∧∃ ys,ys.map Walked.pr <+: t.all d∧Jx (pre++ys) W'):=by
 have HY:=hid' hY
 have HJ:=hid' hJ
 clear hY hJ
 induction t using Co.T.ind with|h op n s ks ih=>?_
 intro d v pre W hv hd hds hB hn hBW hby hbs h0 hN
 have IH:=hid' ih
 have HV:=hid' hv
 obtain⟨p,c,rfl,hc,ho,hnn,hs,hk⟩:=hv.open
 simp only[Co.T.op,Co.T.n,Co.T.s,Co.T.ks] at hk HV ⊢
 simp only[Co.T.ks] at hc
 have HC:=hid' hc
 have HK:=hid' hk
 have HN:=hid' hN
 have HD:=hid' (And.intro hd hds)
 have HWB:=hid' hB
 have HNB:=hid' (And.intro hn hBW)
 have HBY:=hid' hby
 have HBS:=hid' hbs
 have H0:=hid' h0
 clear ih hv hk hc hd hds hN hB hn hBW hby hbs h0 ho hnn hs
 refine callsIn_wide.1 (show CallsIn Fence.wide 6 _ _ _ _ _ from ?_)
 refine callsIn_of_wp Tryz.func100 rfl trivial ?_ rfl
 simp only[Tryz.ntmps100,List.size_toArray,List.length_cons,List.length_nil,Nat.reduceAdd,Nat.reduceSub,Array.replicate_succ,Array.replicate_zero,List.push_toArray,List.append_toArray,List.nil_append,List.cons_append]
 have hB1:Below W.heap.size W (W.alloc (.cells #[.int .i64 op,.int .i64 n,.string s,.slice p ks.length c] 24)):=(Below.refl _ _).alloc (Nat.le_refl _) _
 have hb:=heap_alloc_new W (.cells #[.int .i64 op,.int .i64 n,.string s,.slice p ks.length c] 24)
 have hkp1:KpC n₀ W (W.alloc (.cells #[.int .i64 op,.int .i64 n,.string s,.slice p ks.length c] 24)):=⟨hB1.mono HNB.out.1,fun k cur t _ hk=>hB1.block k (zac hk)⟩
 have hby1:=(hB1.block By (zac HBY.out)).trans HBY.out
 have hBy1:(W.alloc (.cells #[.int .i64 op,.int .i64 n,.string s,.slice p ks.length c] 24)).cell? ⟨By,0,none⟩=some (.func (.yield l) #[] #[]):=by simp[World.cell?,hby1]
 obtain⟨x0,x1,x2,x3⟩:=zab hb
 have hJ1:=zfe HJ.out H0.out hB1
 obtain⟨fn,tmps,assign,body,hy,hR⟩:=HY.out pre ⟨(d,.mk op n s ks,.agg #[.int .i64 op,.int .i64 n,.string s,.slice p ks.length c]),HV.out⟩ _ hJ1 (by have:=HN.out; have:=Co.size_pos (.mk op n s ks); omega)
 dsimp only[Walked.enc] at hy
 have HK1:=hid' hkp1
 have HB:=hid' hb
 have HR:=hid' hR
 clear hJ1 hB1 hb hR hkp1 hby1
 gi_wp2
 refine(RoundIn.anyDepth rfl HR.out).mono ?_
 rintro e W3 (⟨rfl,hJ3,hk3⟩|⟨rfl,hJx3⟩)
 ·have HB3:=hid' ((hk3.2 _ _ _ (.inl rfl) HB.out).trans HB.out)
  obtain⟨y0,y1,y2,y3⟩:=zab HB3.out
  have HIT:=hid' (show WalkIt n₀ w0 J (.mk op n s ks) d pre W 0 [⟨(d,.mk op n s ks,.agg #[.int .i64 op,.int .i64 n,.string s,.slice p ks.length c]),HV.out⟩] W3 from⟨rfl,hJ3,KpC.trans HK1.out hk3⟩)
  clear hk3 hJ3 x0 x1 x2 x3
  gi_wp2
  clear y0 y1 y2 y3
  gi_loopw [17] (fun iv wr=>∃(i:Nat) (ys:List (Walked n₀ w0)),iv=.int .i64 (i:Int)∧i≤ks.length∧Hid (WalkIt n₀ w0 J (.mk op n s ks) d pre W i ys wr)) (fun iv _=>ks.length - (intOf iv).toNat)
  case atStart=>exact⟨0,_,rfl,Nat.zero_le _,HIT⟩
  case round=>
   obtain⟨i,ys,rfl,hi,HI⟩:=hrel
   by_cases hik:i<ks.length
   ·obtain⟨k,hk⟩:∃ k,ks[i]? = some k:=⟨_,List.getElem?_eq_getElem hik⟩
    obtain⟨vk,hrow,hvk⟩:=HK.out i k hk
    obtain⟨b,off,x,y,z,u,e,hl,hve,r0,r1,r2,r3⟩:=hrow.kept (HWB.out.trans HI.out.kp.1) (Nat.le_refl _)
    subst e
    have HKV:=hid' hvk
    obtain⟨pk,ck,rfl, -, -, -, -, -⟩:=hvk.open
    obtain⟨rfl,rfl,rfl,rfl⟩:.int .i64 k.op=x∧.int .i64 k.n=y∧.string k.s=z∧.slice pk k.ks.length ck=u:=by simpa using hve
    clear hve
    have g0:decide ((i:Int)<(ks.length:Int))=true:=by simp; omega
    have j1:(0:Int)≤(i:Int):=by omega
    have j2:(i:Int)<(ks.length:Int):=by omega
    have HKK:=hid' hk
    have HL:=hid' hl
    have hbs3:=(HI.out.kp.2 _ _ _ (.inr (.inr rfl)) HBS.out).trans HBS.out
    have hz0:wr.cell? ⟨Bs,0,none⟩=some (.func (.func 100) #[] #[.pointer (some ⟨By,0,none⟩),.pointer (some ⟨Bs,0,none⟩)]):=by simp[World.cell?,hbs3]
    have hbl:Bs<wr.heap.size:=zac hbs3
    have hdw:IntKind.i64.wrap (d+1)=d+1:=IntWalk.i64_in _ (by have:=HD.out; omega)
    have hiw:IntKind.i64.wrap ((i:Int)+1)=(i:Int)+1:=IntWalk.i64_in _ (by have:=HD.out; have h2:=Co.sizes_len ks; rw[Co.T.size] at this; omega)
    clear hk hvk hl hrow hbs3
    gi_wp2
    have hW1:=hid' ((Below.refl wr.heap.size wr).alloc (Nat.le_refl _) (.cells #[.int .i64 k.op,.int .i64 k.n,.string k.s,.slice pk k.ks.length ck] 24))
    have hkp:KpC n₀ wr _:=⟨hW1.out.mono (by have:=HNB.out.1; have:=HI.out.kp.1.size; omega),fun k' cur t _ hk'=>hW1.out.block k' (zac hk')⟩
    have HKP:=hid' (KpC.trans HI.out.kp hkp)
    have hsz:=HI.out.kp.1.size
    have hik2:=HKK.out
    have hst:=zwp hik2
    have hyl:ys.length=1+Co.sizes (ks.take i):=by
     have:=congrArg List.length HI.out.pr
     rw[List.length_map,List.length_cons,zvo] at this
     simp only[Co.T.ks] at this
     omega
    refine⟨trivial,(callsIn_wide.2 (IH.out k (List.mem_of_getElem? hik2) (d+1) _ (pre++ys) _ HKV.out ?_ ?_ ?_ ?_ ?_ ?_ ?_ ?_ ?_)).mono ?_⟩
    ·have:=HD.out; omega
    ·have:=HD.out; rw[Co.T.size] at this; omega
    ·exact HWB.out.trans HKP.out.1
    ·exact Nat.le_trans HNB.out.1 HKP.out.1.size
    ·exact Nat.le_trans HNB.out.2 HKP.out.1.size
    ·exact(HKP.out.2 _ _ _ (.inr (.inl rfl)) HBY.out).trans HBY.out
    ·exact(HKP.out.2 _ _ _ (.inr (.inr rfl)) HBS.out).trans HBS.out
    ·exact zfe HJ.out HI.out.J hW1.out
    ·have:=HN.out; rw[Co.T.size] at this; rw[List.length_append]; omega
    ·rintro e W4 (⟨rfl,hk4,zs,hz1,hz2⟩|⟨rfl,zs,hz1,hz2⟩)
     ·have HN2:=hid' (show WalkIt n₀ w0 J (.mk op n s ks) d pre W (i+1) (ys++zs) W4 from⟨by rw[List.map_append,HI.out.pr,hz1]; simp only[Co.T.ks]; rw[zsj hik2,znr]; simp[Co.alls],by rw[←List.append_assoc]; exact hz2,KpC.trans HKP.out hk4⟩)
      clear hk4 hz1 hz2 hst hyl hik2 hsz
      gi_wp2
      go_roundw
      case rel=>exact⟨i+1,_,by simp,by omega,HN2⟩
      case measure=>simp only[intOf]; omega
     ·have hp:=zuw hik2 (d+1) hz1
      have HZ:=hid' hz2
      have HP:=hid' hp
      clear hz1 hz2 hp hst hyl hik2 hsz
      gi_wp2
      go_ret
      exact .inr ⟨rfl,ys++zs,by rw[List.map_append,HI.out.pr,qau,List.cons_append]; exact List.cons_prefix_cons.2 ⟨rfl,HP.out⟩,by rw[←List.append_assoc]; exact HZ.out⟩
   ·obtain rfl:i=ks.length:=by omega
    have g9:decide (ks.length<ks.length)=false:=by simp
    clear hik
    gi_wp2
    go_ret
    exact .inl ⟨rfl,HI.out.kp,ys,by have:=HI.out.pr; simp only[Co.T.ks,List.take_length] at this; exact this,HI.out.J⟩
 ·gi_wp2
  go_ret
  exact .inr ⟨rfl,_,by rw[qau]; exact List.prefix_append [(d,_)] _,hJx3⟩
theorem zwh (F:Fence)(n:Nat)(h5:F.fn 48)(hro:F.round=none)(op k:Int)(s:ByteArray)(p:Option Addr)(len c:Nat)(w:World):
  CallsIn F n Tryz.prog 48 #[.agg #[.int .i64 op,.int .i64 k,.string s,.slice p len c]] w fun e w'=>e=.returned (.func (.func 99) #[] #[.pointer (some ⟨w.heap.size,0,none⟩)])∧w'=w.alloc (.cells #[.int .i64 op,.int .i64 k,.string s,.slice p len c] 24):=by
 refine callsIn_of_wp Tryz.func48 rfl h5 ?_ hro
 simp only[Tryz.ntmps48,List.size_toArray,List.length_cons,List.length_nil,Nat.reduceAdd,Nat.reduceSub,Array.replicate_succ,Array.replicate_zero,List.push_toArray,List.append_toArray,List.nil_append,List.cons_append]
 gi_wp2
 go_ret
 exact⟨rfl,rfl⟩
def zpq {B:Nat}{w0:World}(t:Co.T)(xs:List (Walked B w0)):Prop:=xs.map Walked.pr=t.all 1
def zmr {B:Nat}{w0:World}(t:Co.T)(xs:List (Walked B w0)):Prop:=xs.map Walked.pr <+: t.all 1
set_option maxHeartbeats 2000000 in
theorem zpo (Bc n₀:Nat)(w0:World)(t:Co.T)(op n:Int)(s:ByteArray)(p:Option Addr)(len c:Nat)(w:World)(hT:CoreAt n₀ w0 t (.agg #[.int .i64 op,.int .i64 n,.string s,.slice p len c]))(hsz:t.size≤2000000)(h0w:Below n₀ w0 w)
  (hBc:w.heap[Bc]? = some (.cells #[.int .i64 op,.int .i64 n,.string s,.slice p len c] 24 (0,0))) (hn:n₀≤w.heap.size):
  SeqStopsK Fence.wide 6 Tryz.prog 99 #[.pointer (some ⟨Bc,0,none⟩)] (Walked.enc (B:=n₀) (w0:=w0)) (KpC n₀) (zpq t) (zmr t) t.size w:=by
 intro l J Jx W hW hJ hJx hY h0
 have HC:=hid' ((hW.block Bc (zac hBc)).trans hBc)
 have HY:=hid' hY
 have HJ:=hid' hJ
 have H0:=hid' h0
 have HW:=hid' (h0w.trans (hW.mono hn))
 have HNW:=hid' (Nat.le_trans hn hW.size)
 clear hY hJ h0 hW hJx h0w
 refine callsIn_of_wp Tryz.func99 rfl trivial ?_ rfl
 simp only[Tryz.ntmps99,List.size_toArray,List.length_cons,List.length_nil,Nat.reduceAdd,Nat.reduceSub,Array.replicate_succ,Array.replicate_zero,List.push_toArray,List.append_toArray,List.nil_append,List.cons_append]
 have bW:=Boxed.new (W.alloc (.cells #[.func (.yield l) #[] #[]] 135)) 37 .nilFunc
 simp only[World.size_alloc] at bW
 have z0:=bW.cell
 have z1:=bW.frozen
 have hB2:Below W.heap.size W ((W.alloc (.cells #[.func (.yield l) #[] #[]] 135)).alloc (.cells #[.func (.func 100) #[] #[.pointer (some ⟨W.heap.size,0,none⟩),.pointer (some ⟨W.heap.size+1,0,none⟩)]] 37)):=((Below.refl _ _).alloc (Nat.le_refl _) _).alloc (by simp) _
 have hB0:=(hB2.block Bc (zac HC.out)).trans HC.out
 obtain⟨x0,x1,x2,x3⟩:=zab hB0
 have hby:=(Boxed.new W 135 (.func (.yield l) #[] #[])).alloc (.cells #[.func (.func 100) #[] #[.pointer (some ⟨W.heap.size,0,none⟩),.pointer (some ⟨W.heap.size+1,0,none⟩)]] 37)
 have hbs:=Boxed.new (W.alloc (.cells #[.func (.yield l) #[] #[]] 135)) 37 (.func (.func 100) #[] #[.pointer (some ⟨W.heap.size,0,none⟩),.pointer (some ⟨W.heap.size+1,0,none⟩)])
 simp only[World.size_alloc] at hbs
 have HONE:=hid' (qbh l W.heap.size n₀ W.heap.size (W.heap.size+1) t.size w0 J Jx HJ.out (fun pre x W1=>HY.out pre x W1) t 1 _ [] _ hT (by omega) (by omega) (HW.out.trans (hB2.mono HNW.out)) (Nat.le_trans HNW.out hB2.size) hB2.size hby hbs (zfe HJ.out H0.out hB2) (by simp))
 clear hB2 hB0 hby hbs hsz
 gi_wp2
 refine⟨trivial,(callsIn_wide.2 HONE.out).mono ?_⟩
 rintro e W3 (⟨rfl,h2,ys,h1,h3⟩|⟨rfl,ys,h1,h3⟩)
 ·gi_wp2
  refine bodyPost_end (results_none rfl _ _ _) rfl ?_
  exact⟨⟨_,rfl⟩,.inl ⟨ys,h1,h3⟩⟩
 ·gi_wp2
  refine bodyPost_end (results_none rfl _ _ _) rfl ?_
  exact⟨⟨_,rfl⟩,.inr ⟨ys,h1,h3⟩⟩
end
section
open Go.RowKit Go.Shelf
set_option maxRecDepth 100000
attribute [local go_sem] Oper.semAt_some
attribute [local go_sem] zbj
def Co.small (t:Co.T):Bool:=decide (t.size≤2000) && (t.all 1).all fun x=>decide (x.1≤200)
theorem zyc {B:Nat}{w0:World}{t:Co.T}{xs:List (Walked B w0)}(h:zpq t xs)(h1:xs.length≤2000)(h2:∀ x∈xs,x.1.1≤200):Co.small t=true:=by
 unfold Co.small
 unfold zpq at h
 have hl:t.size=xs.length:=by rw[←Co.all_length t 1,←h,List.length_map]
 rw[Bool.and_eq_true,List.all_eq_true]
 refine⟨decide_eq_true (by omega),fun y hy=>?_⟩
 rw[←h] at hy
 obtain⟨x,hx,rfl⟩:=List.mem_map.1 hy
 exact decide_eq_true (h2 x hx)
theorem qbz {B:Nat}{w0:World}{t:Co.T}{xs:List (Walked B w0)}(h:zmr t xs)(hb:2000<xs.length∨∃ x∈xs,200<x.1.1):Co.small t=false:=by
 unfold Co.small
 unfold zmr at h
 rcases hb with hb|⟨x,hx,hd⟩
 ·have:=h.length_le
  rw[List.length_map,Co.all_length] at this
  rw[decide_eq_false (by omega),Bool.false_and]
 ·have hy:x.pr∈t.all 1:=h.subset (List.mem_map_of_mem hx)
  rw[Bool.and_eq_false_iff]
  right
  rw[List.all_eq_false]
  exact⟨x.pr,hy,by show ¬decide (x.1.1≤200)=true; rw[decide_eq_true_eq]; omega⟩
set_option maxHeartbeats 2000000 in
theorem zqf (t:Co.T)(v:Value)(w:World)(hT:CoreAt w.heap.size w t v)(hts:t.size≤2000000):
  Calls Tryz.prog 96 #[v] w (zaj (.bool (Co.small t)) w):=by
 obtain⟨p,c,hve, -, -, -, -, -⟩:=hT.open
 obtain⟨op,n,s,len,rfl⟩:∃ op n s len,v=.agg #[.int .i64 op,.int .i64 n,.string s,.slice p len c]:=⟨_,_,_,_,hve⟩
 clear hve
 have HT:=hid' hT
 clear hT
 refine callsIn_wide.1 (show CallsIn Fence.wide 7 _ _ _ _ _ from ?_)
 have h1:1≤7:=by omega
 refine callsIn_of_wp_marks Tryz.func96 rfl trivial ?_ rfl
 simp only[Tryz.ntmps96,List.size_toArray,List.length_cons,List.length_nil,Nat.reduceAdd,Nat.reduceSub,Array.replicate_succ,Array.replicate_zero,List.push_toArray,List.append_toArray,List.nil_append,List.cons_append]
 have hnn:∀(p:Value) (w:World),(binOp BinOp.eql 100 (.func (.func 99) #[] #[p]) .nilFunc).run Tryz.prog w=.ok (.bool false) w:=fun _ _=>by kernel_rfl
 have f64:Fence.wide.fn 48:=trivial
 gi_wp2_with (gi_at_call 48; refine(zwh Fence.wide 6 trivial rfl op n s p len c _).mono ?_; rintro e w' ⟨rfl,rfl⟩)
 have bR:=((Boxed.new (w.alloc (.cells #[.int .i64 op,.int .i64 n,.string s,.slice p len c] 24)) 4 (.bool false)).alloc (.cells #[.int .i64 0] 3)).alloc (.cells #[.int .i64 op,.int .i64 n,.string s,.slice p len c] 24)
 have bN:=(Boxed.new ((w.alloc (.cells #[.int .i64 op,.int .i64 n,.string s,.slice p len c] 24)).alloc (.cells #[.bool false] 4)) 3 (.int .i64 0)).alloc (.cells #[.int .i64 op,.int .i64 n,.string s,.slice p len c] 24)
 have bC:=heap_alloc_new (((w.alloc (.cells #[.int .i64 op,.int .i64 n,.string s,.slice p len c] 24)).alloc (.cells #[.bool false] 4)).alloc (.cells #[.int .i64 0] 3)) (.cells #[.int .i64 op,.int .i64 n,.string s,.slice p len c] 24)
 simp only[World.size_alloc] at bR bN bC
 have hB0:Below w.heap.size w ((((w.alloc (.cells #[.int .i64 op,.int .i64 n,.string s,.slice p len c] 24)).alloc (.cells #[.bool false] 4)).alloc (.cells #[.int .i64 0] 3)).alloc (.cells #[.int .i64 op,.int .i64 n,.string s,.slice p len c] 24)):=((((Below.refl _ w).alloc (Nat.le_refl _) _).alloc (by simp) _).alloc (by simp; omega) _).alloc (by simp; omega) _
 have hsz2:((((w.alloc (.cells #[.int .i64 op,.int .i64 n,.string s,.slice p len c] 24)).alloc (.cells #[.bool false] 4)).alloc (.cells #[.int .i64 0] 3)).alloc (.cells #[.int .i64 op,.int .i64 n,.string s,.slice p len c] 24)).heap.size=w.heap.size+4:=by simp
 obtain⟨W0,hW0⟩:∃ W0,((((w.alloc (.cells #[.int .i64 op,.int .i64 n,.string s,.slice p len c] 24)).alloc (.cells #[.bool false] 4)).alloc (.cells #[.int .i64 0] 3)).alloc (.cells #[.int .i64 op,.int .i64 n,.string s,.slice p len c] 24))=W0:=⟨_,rfl⟩
 rw[hW0] at bR bN bC hB0 hsz2 ⊢
 clear hW0
 refine wpIn_rangeFunc_ownH (F:=Fence.wide) rfl h1 (gf:=99) (lb:=#[.pointer (some ⟨w.heap.size+1+1+1,0,none⟩)]) rfl trivial (enters_of Tryz.func99 (by kernel_rfl) rfl)
  (zpo (w.heap.size+1+1+1) w.heap.size w t op n s p len c W0 HT.out hts hB0 bC (by omega)) KpC.trans (zwz (by omega)) (Below.refl _ _) (fun _=>rfl)
  (fun (pre:List (Walked w.heap.size w)) W=>(((pre.length≤2000∧∀ x∈pre,x.1.1≤200)∧Boxed W (w.heap.size+1+1) 3 (.int .i64 (pre.length:Int)))∧Boxed W (w.heap.size+1) 4 (.bool false))∧Below w.heap.size w W)
  (fun c (pre:List (Walked w.heap.size w)) W=>((c=.ret∧(2000<pre.length∨∃ x∈pre,200<x.1.1))∧Boxed W (w.heap.size+1) 4 (.bool false))∧Below w.heap.size w W)
  (OwnFrom.and (OwnFrom.and (OwnFrom.and (ownFrom_pure _ _) (Own.from (boxed_own _ _ (fun (pre:List (Walked w.heap.size w))=>.int .i64 (pre.length:Int))) _)) (Own.from (boxed_own _ _ (fun (_:List (Walked w.heap.size w))=>.bool false)) _)) (ownFrom_below (Nat.le_refl _) (by omega)))
  (fun c=>OwnFrom.and (OwnFrom.and (ownFrom_pure _ _) (Own.from (boxed_own _ _ (fun (_:List (Walked w.heap.size w))=>.bool false)) _)) (ownFrom_below (Nat.le_refl _) (by omega)))
  ⟨⟨⟨by simp,bN⟩,bR⟩,hB0⟩
  (fun x a' W=>a' = { tmps:=#[.agg #[.int .i64 op,.int .i64 n,.string s,.slice p len c],.pointer (some ⟨w.heap.size,0,none⟩),.pointer (some ⟨w.heap.size+1,0,none⟩),.pointer (some ⟨w.heap.size+1+1,0,none⟩),.int .i64 x.1.1,.agg #[.int .i64 op,.int .i64 n,.string s,.slice p len c],.func (.func 99) #[] #[.pointer (some ⟨w.heap.size+1+1+1,0,none⟩)],.int .i64 x.1.1,x.1.2.2,undef,undef,undef,undef,undef,undef,undef,undef],defers:=[] })
  (fun x a' s X Y row hs hg hr=>hs)
  ?assign ?body ?done ?stop
 case assign=>
  rintro l pre x W K ⟨⟨⟨hp,hv⟩,hc⟩,hB⟩ hK
  rw[show Walked.enc x=#[.int .i64 x.1.1,x.1.2.2] from rfl]
  gi_wp2
  exact hK _ _ (KeepsFrom.refl _ _) ⟨Below.refl _ _,fun k cur t ht hk=>rfl⟩ ⟨⟨⟨hp,hv⟩,hc⟩,hB⟩ rfl
 case body=>
  rintro l pre x a' W hl ⟨r,hr⟩ ⟨⟨⟨hp,hv⟩,hcb⟩,hB⟩ rfl hlt
  have HX:=hid' hp
  clear hp
  obtain⟨⟨d,tt,vv⟩,hx⟩:=x
  have hnw:IntKind.i64.wrap ((pre.length:Int)+1)=(pre.length:Int)+1:=IntWalk.i64_in _ (by omega)
  have hc:=hv.cell
  have hf:=hv.frozen
  have hc2:=hcb.cell
  have hf2:=hcb.frozen
  have HBW:=hid' hB
  have HV:=hid' hv
  have HC:=hid' hcb
  have hbx:∀ v':Value,∀(k:Nat) (cur:Array Value) (t:TypeId),(t=24∨t=135∨t=37)→W.heap[k]? = some (.cells cur t (0,0))→(W.setCell ⟨w.heap.size+1+1,0,none⟩ v').heap[k]? = W.heap[k]?:=by
   intro v' k cur t ht hk
   refine Below.heap_setCell _ _ _ k ?_
   rintro rfl
   have e:=hk.symm.trans (show W.heap[w.heap.size+1+1]? = _ from hv)
   simp at e
   rcases ht with h|h|h<;>exact absurd (h.symm.trans e.2) (by decide)
  have HBX:=hid' hbx
  have hn2:=hv.set (.int .i64 ((pre.length:Int)+1))
  have hr2:=hcb.other (by omega:w.heap.size+1≠w.heap.size+1+1) (.int .i64 ((pre.length:Int)+1))
  have hc3:=hr2.cell
  have hf3:=hr2.frozen
  have hc4:=hn2.cell
  have hBn:=hB.setCell (p:=⟨w.heap.size+1+1,0,none⟩) (by simp; omega) (.int .i64 ((pre.length:Int)+1))
  have HN2:=hid' hn2
  have HR2:=hid' hr2
  have HBN:=hid' hBn
  clear hbx hB hv hcb hr hn2 hr2 hBn
  by_cases h1:2000<pre.length+1
  ·have g1:decide ((2000:Int)<(pre.length:Int)+1)=true:=decide_eq_true (by omega)
   gi_wp2
   refine⟨(KeepsOthers.trans (KeepsOthers.setCell _ _ _) (KeepsOthers.setCell _ _ _)).from _,⟨⟨rfl,.inl (by rw[List.length_append]; simp only[List.length_cons,List.length_nil]; omega)⟩,HR2.out.set _⟩,HBN.out.setCell (p:=⟨w.heap.size+1,0,none⟩) (by simp) _⟩
  ·have g1:decide ((2000:Int)<(pre.length:Int)+1)=false:=decide_eq_false (by omega)
   by_cases h2:200<d
   ·have g2:decide (200<d)=true:=decide_eq_true h2
    gi_wp2
    refine⟨(KeepsOthers.trans (KeepsOthers.setCell _ _ _) (KeepsOthers.setCell _ _ _)).from _,⟨⟨rfl,.inr ⟨⟨(d,tt,vv),hx⟩,by simp,h2⟩⟩,HR2.out.set _⟩,HBN.out.setCell (p:=⟨w.heap.size+1,0,none⟩) (by simp) _⟩
   ·have g2:decide (200<d)=false:=decide_eq_false h2
    have HP2:=hid' (show ∀ y∈pre++[(⟨(d,tt,vv),hx⟩:Walked w.heap.size w)],y.1.1≤200 from fun y hy=>by
     rcases List.mem_append.1 hy with hy|hy
     ·exact HX.out.2 y hy
     ·rw[List.mem_singleton] at hy
      subst hy
      show d≤200
      omega)
    gi_wp2
    refine⟨(KeepsOthers.setCell _ _ _).from _,⟨(Below.refl _ W).setCell (p:=⟨w.heap.size+1+1,0,none⟩) (by simp; omega) _,HBX.out _⟩,⟨⟨⟨by rw[List.length_append]; simp only[List.length_cons,List.length_nil]; omega,?_⟩,?_⟩,HR2.out⟩,HBN.out⟩
    ·simpa using HP2.out
    ·rw[List.length_append]
     exact HN2.out
 case done=>
  rintro D ys W hD hall ⟨⟨⟨hp,hv⟩,hcb⟩,hB⟩ hK
  have hc:=hcb.cell
  have hf:=hcb.frozen
  gi_wp2
  have hd:(W.setCell ⟨w.heap.size+1,0,none⟩ (.bool true)).heap[D]? = some (.deferred (some [])):=(Below.heap_setCell _ _ _ D (by show D≠w.heap.size+1; omega)).trans hK
  refine⟨by simp,.inl ⟨_,_,rfl,run_takeDeferred hd,?_⟩⟩
  have hc2:((W.setCell ⟨w.heap.size+1,0,none⟩ (.bool true)).putObj D (.deferred none)).cell? ⟨w.heap.size+1,0,none⟩=some (.bool true):=((boxed_own (w.heap.size+1) 4 (fun (_:Unit)=>.bool true)).putObj (s:=()) _ (hcb.set (.bool true)) hd rfl).cell
  refine⟨.bool true,?_,by rw[zyc hall hp.1 hp.2],(hB.setCell (p:=⟨w.heap.size+1,0,none⟩) (by simp) _).trans (belowK_b (w:=w) (Nat.le_refl _) _ D _ _ (by omega) hd rfl rfl)⟩
  simp[results,Tryz.results96,go_sem,hc2]
 case stop=>
  rintro D c pre W hD hpart ⟨⟨⟨rfl,hbad⟩,hcb⟩,hB⟩ hK
  have hc:=hcb.cell
  have hf:=hcb.frozen
  gi_wp2
  refine⟨by simp,.inl ⟨_,_,rfl,run_takeDeferred hK,?_⟩⟩
  have hc2:(W.putObj D (.deferred none)).cell? ⟨w.heap.size+1,0,none⟩=some (.bool false):=((boxed_own (w.heap.size+1) 4 (fun (_:Unit)=>.bool false)).putObj (s:=()) _ hcb hK rfl).cell
  refine⟨.bool false,?_,by rw[qbz hpart hbad],hB.trans (belowK_b (w:=w) (Nat.le_refl _) _ D _ _ (by omega) hK rfl rfl)⟩
  simp[results,Tryz.results96,go_sem,hc2]
end
end Go.Proofs.YtanlmbbalamgkaaGreatDoor
