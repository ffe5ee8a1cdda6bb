/- Proved: lemmas and contracts of the functions that the law reaches, part 15 of 35: GenSmall, CauTree, CauSmallT. Conditions: as each states. -/
import Derived.RangeFuncNested
import Derived.RangeFuncBound
import Derived.Shelf.RegionOpen
import Derived.OwnWalkIn
import Derived.LoopNIn
import Derived.LoopIn
import Derived.Test.YtanlmbbalamgkaaGreatDoorVmp3
import Derived.Test.YtanlmbbalamgkaaGreatDoorVmp11
namespace Go.Proofs.YtanlmbbalamgkaaGreatDoor
set_option linter.unusedVariables false
set_option linter.unusedSimpArgs false
section
open Go.RowKit Go.Shelf
set_option maxRecDepth 100000
attribute [local go_sem] Oper.semAt_some
theorem dp (P:Program)(w:World)(a:Addr)(m:Mode)(f:Fn)(ts cs:Array Value):(store a (.func f ts cs) m).run P w=stored P w a (.func f ts cs) m:=run_store P w a _ m rfl
attribute [local go_sem] dp
def ef (op n:Int)(s:ByteArray):Value:=.agg #[.int .i64 op,.int .i64 n,.string s,.slice none 0 0]
theorem zis {F:Fence}(hd:F.depth=none)(k:Nat):F.room k:=fun d h=>by rw[hd] at h; cases h
theorem RoundIn.anyDepth {F:Fence}(hd:F.depth=none){m m':Nat}{P:Program}{l:Nat}{f:FuncId}{tmps:Array Value}{assign body:Code}{w:World}{R:Ending→World→Prop}
  (h:RoundIn F m P l f tmps assign body w R):RoundIn F m' P l f tmps assign body w R:=⟨h.1,fun c cs _=>h.2 c cs (zis hd _)⟩
theorem nu {β:Type}{B:Nat}{J:β→World→Prop}(hJ:AbidesFrom B J){s:β}{W W':World}(h:J s W)(hb:Below W.heap.size W W'):J s W':=
 hJ s W W' none h ⟨hb.os,hb.tape,hb.output,hb.size,fun k hk _=>hb.block k hk⟩ (fun r e=>by cases e)
def KpC (n₀:Nat)(W W':World):Prop:=Below n₀ W W'∧∀(k:Nat) (cur:Array Value) (t:TypeId),(t=24∨t=135∨t=37)→W.heap[k]? = some (.cells cur t (0,0))→W'.heap[k]? = W.heap[k]?
theorem KpC.trans {n₀:Nat}{A B C:World}(h:KpC n₀ A B)(k:KpC n₀ B C):KpC n₀ A C:=
 ⟨h.1.trans k.1,fun j cur t ht hj=>(k.2 j cur t ht ((h.2 j cur t ht hj).trans hj)).trans (h.2 j cur t ht hj)⟩
theorem znq {n₀:Nat}{w:World}(hn:n₀≤w.heap.size)(W:World)(l:Nat)(o o':Obj)(hl:w.heap.size≤l)(h:W.heap[l]? = some o)(ho:o.isCells=false)(hw:o.isWalk=false):KpC n₀ W (W.putObj l o'):=
 ⟨belowK_b hn W l o o' hl h ho hw,fun k cur t _ hk=>World.putObj_heap_other (by rintro rfl; rw[hk] at h; cases h; cases ho)⟩
theorem ae {W:World}{b:Nat}{x y z u:Value}{t:TypeId}(h:W.heap[b]? = some (.cells #[x,y,z,u] t (0,0))):
  W.cell? ⟨b,0,none⟩=some x∧W.cell? ⟨b,1,none⟩=some y∧W.cell? ⟨b,2,none⟩=some z∧W.cell? ⟨b,3,none⟩=some u:=
 ⟨by simp[World.cell?,h],by simp[World.cell?,h],by simp[World.cell?,h],by simp[World.cell?,h]⟩
set_option maxHeartbeats 2000000 in
theorem zsp (l B n₀ By Bs:Nat)(op n:Int)(s:ByteArray)(J Jx:List Unit→World→Prop)(W:World)(hJ:AbidesFrom B J)(A3:By<W.heap.size)(A8:W.cell? ⟨By,0,none⟩=some (.func (.yield l) #[] #[]))
  (hY:∀ pre x W1,J pre W1→pre.length<1→YieldAt Fence.wide 5 Tryz.prog l #[.int .i64 1,ef op n s] W1 fun e W'=>(e=.returned (.bool true)∧J (pre++[x]) W'∧KpC n₀ W1 W')∨(e=.returned (.bool false)∧Jx (pre++[x]) W'))
  (h0:J [] W) (hn:n₀≤W.heap.size):
  CallsIn Fence.wide 5 Tryz.prog 100 #[ef op n s,.int .i64 1,.pointer (some ⟨By,0,none⟩),.pointer (some ⟨Bs,0,none⟩)] W fun e W'=>
   (e=.returned (.bool true)∧J [()] W'∧KpC n₀ W W')∨(e=.returned (.bool false)∧Jx [()] W'):=by
 have HY:=aa hY;have HJ:=aa hJ;have H0:=aa h0;clear hY hJ h0;refine callsIn_of_wp Tryz.func100 rfl trivial ?_ rfl;simp only[Tryz.ntmps100,List.size_toArray,List.length_cons,List.length_nil,Nat.reduceAdd,Nat.reduceSub,Array.replicate_succ,Array.replicate_zero,List.push_toArray,List.append_toArray,List.nil_append,List.cons_append,ef];have A0:Below W.heap.size W (W.alloc (.cells #[.int .i64 op,.int .i64 n,.string s,.slice none 0 0] 24)):=(Below.refl _ _).alloc (Nat.le_refl _) _;have A7:=(A0.cell (p:=⟨By,0,none⟩) A3).trans A8;have hb:=heap_alloc_new W (.cells #[.int .i64 op,.int .i64 n,.string s,.slice none 0 0] 24);obtain⟨x0,x1,x2,x3⟩:=ae hb;have A5:=nu HJ.out H0.out A0;obtain⟨fn,tmps,assign,body,hy,hR⟩:=HY.out [] () _ A5 (by simp);rw[ef] at hy;have A6:=aa A0;have HB:=aa hb;have HR:=aa hR;clear A5 A0 hb hR;gi_wp2
 refine(RoundIn.anyDepth rfl HR.out).mono ?_;rintro e W3 (⟨rfl,A4,A1⟩|⟨rfl,A2⟩)
 ·obtain⟨y0,y1,y2,y3⟩:=ae ((A1.2 _ _ _ (.inl rfl) HB.out).trans HB.out);have HK:=aa A1;have A9:=aa A4;clear A1 A4 x0 x1 x2 x3;gi_wp2
  gi_loopw [17] (fun iv wr=>iv=.int .i64 0∧wr=W3) (fun _ _=>0)
  case atStart=>exact⟨rfl,rfl⟩
  case round=>
   obtain⟨rfl,rfl⟩:=hrel;gi_wp2
   go_ret;exact .inl ⟨rfl,A9.out,KpC.trans ⟨A6.out.mono hn,fun k cur t _ hk=>A6.out.block k (af hk)⟩ HK.out⟩
 ·gi_wp2
  go_ret;exact .inr ⟨rfl,A2⟩
def zmp (op n:Int)(s:ByteArray):Unit→Array Value:=fun _=>#[.int .i64 1,ef op n s]
theorem zyz (F:Fence)(n:Nat)(h5:F.fn 48)(A0:F.round=none)(op k:Int)(s:ByteArray)(w:World):
  CallsIn F n Tryz.prog 48 #[ef op k s] w fun e w'=>e=.returned (.func (.func 99) #[] #[.pointer (some ⟨w.heap.size,0,none⟩)])∧w'=w.alloc (.cells #[.int .i64 op,.int .i64 k,.string s,.slice none 0 0] 24):=by
 refine callsIn_of_wp Tryz.func48 rfl h5 ?_ A0;simp only[Tryz.ntmps48,List.size_toArray,List.length_cons,List.length_nil,Nat.reduceAdd,Nat.reduceSub,Array.replicate_succ,Array.replicate_zero,List.push_toArray,List.append_toArray,List.nil_append,List.cons_append,ef];gi_wp2
 go_ret;exact⟨rfl,rfl⟩
set_option maxHeartbeats 2000000 in
theorem zol (Bc n₀:Nat)(op n:Int)(s:ByteArray)(w:World)(A4:w.heap[Bc]? = some (.cells #[.int .i64 op,.int .i64 n,.string s,.slice none 0 0] 24 (0,0)))(hn:n₀≤w.heap.size):
  SeqStopsK Fence.wide 6 Tryz.prog 99 #[.pointer (some ⟨Bc,0,none⟩)] (zmp op n s) (KpC n₀) (fun xs=>xs=[()]) (fun _=>True) 1 w:=by
 intro l J Jx W hW hJ A6 hY h0;have HC:=aa ((hW.block Bc (af A4)).trans A4);have HY:=aa hY;have HJ:=aa hJ;have H0:=aa h0;have HW:=aa hW;clear hY hJ h0 hW A6;refine callsIn_of_wp Tryz.func99 rfl trivial ?_ rfl;simp only[Tryz.ntmps99,List.size_toArray,List.length_cons,List.length_nil,Nat.reduceAdd,Nat.reduceSub,Array.replicate_succ,Array.replicate_zero,List.push_toArray,List.append_toArray,List.nil_append,List.cons_append];have bW:=Boxed.new (W.alloc (.cells #[.func (.yield l) #[] #[]] 135)) 37 .nilFunc;simp only[World.size_alloc] at bW;have z0:=bW.cell;have z1:=bW.frozen;have A0:Below W.heap.size W ((W.alloc (.cells #[.func (.yield l) #[] #[]] 135)).alloc (.cells #[.func (.func 100) #[] #[.pointer (some ⟨W.heap.size,0,none⟩),.pointer (some ⟨W.heap.size+1,0,none⟩)]] 37)):=((Below.refl _ _).alloc (Nat.le_refl _) _).alloc (by simp) _;have A5:=(A0.block Bc (af HC.out)).trans HC.out;obtain⟨x0,x1,x2,x3⟩:=ae A5;have A3:((W.alloc (.cells #[.func (.yield l) #[] #[]] 135)).alloc (.cells #[.func (.func 100) #[] #[.pointer (some ⟨W.heap.size,0,none⟩),.pointer (some ⟨W.heap.size+1,0,none⟩)]] 37)).cell? ⟨W.heap.size,0,none⟩=some (.func (.yield l) #[] #[]):=((Boxed.new W 135 (.func (.yield l) #[] #[])).alloc _).cell;have A2:W.heap.size<((W.alloc (.cells #[.func (.yield l) #[] #[]] 135)).alloc (.cells #[.func (.func 100) #[] #[.pointer (some ⟨W.heap.size,0,none⟩),.pointer (some ⟨W.heap.size+1,0,none⟩)]] 37)).heap.size:=by simp; omega
 have A1:=aa (zsp l W.heap.size n₀ W.heap.size (W.heap.size+1) op n s J Jx _ HJ.out A2 A3 (fun pre x W1=>HY.out pre x W1) (nu HJ.out H0.out A0) (by have:=HW.out.size; simp; omega));clear A0 A5 A3 A2;gi_wp2
 refine⟨trivial,A1.out.mono ?_⟩;rintro e W3 (⟨rfl,h1,h2⟩|⟨rfl,h1⟩)
 ·gi_wp2
  refine bodyPost_end (results_none rfl _ _ _) rfl ?_;exact⟨⟨_,rfl⟩,.inl ⟨[()],rfl,h1⟩⟩
 ·gi_wp2
  refine bodyPost_end (results_none rfl _ _ _) rfl ?_;exact⟨⟨_,rfl⟩,.inr ⟨[()],trivial,h1⟩⟩
set_option maxHeartbeats 2000000 in
theorem zav (op n:Int)(s:ByteArray)(w:World):
  Calls Tryz.prog 96 #[ef op n s] w (ar (.bool true) w):=by
 refine callsIn_wide.1 (show CallsIn Fence.wide 7 _ _ _ _ _ from ?_);have h1:1≤7:=by omega
 refine callsIn_of_wp_marks Tryz.func96 rfl trivial ?_ rfl;simp only[Tryz.ntmps96,List.size_toArray,List.length_cons,List.length_nil,Nat.reduceAdd,Nat.reduceSub,Array.replicate_succ,Array.replicate_zero,List.push_toArray,List.append_toArray,List.nil_append,List.cons_append,ef];have A8:∀(p:Value) (w:World),(binOp BinOp.eql 100 (.func (.func 99) #[] #[p]) .nilFunc).run Tryz.prog w=.ok (.bool false) w:=fun _ _=>by kernel_rfl
 have B0:Fence.wide.fn 48:=trivial;gi_wp2_with (gi_at_call 48; refine(zyz Fence.wide 6 trivial rfl op n s _).mono ?_; rintro e w' ⟨rfl,rfl⟩)
 have bR:=((Boxed.new (w.alloc (.cells #[.int .i64 op,.int .i64 n,.string s,.slice none 0 0] 24)) 4 (.bool false)).alloc (.cells #[.int .i64 0] 3)).alloc (.cells #[.int .i64 op,.int .i64 n,.string s,.slice none 0 0] 24);have bN:=(Boxed.new ((w.alloc (.cells #[.int .i64 op,.int .i64 n,.string s,.slice none 0 0] 24)).alloc (.cells #[.bool false] 4)) 3 (.int .i64 0)).alloc (.cells #[.int .i64 op,.int .i64 n,.string s,.slice none 0 0] 24);have bC:=heap_alloc_new (((w.alloc (.cells #[.int .i64 op,.int .i64 n,.string s,.slice none 0 0] 24)).alloc (.cells #[.bool false] 4)).alloc (.cells #[.int .i64 0] 3)) (.cells #[.int .i64 op,.int .i64 n,.string s,.slice none 0 0] 24);simp only[World.size_alloc] at bR bN bC;have A4:Below w.heap.size w ((((w.alloc (.cells #[.int .i64 op,.int .i64 n,.string s,.slice none 0 0] 24)).alloc (.cells #[.bool false] 4)).alloc (.cells #[.int .i64 0] 3)).alloc (.cells #[.int .i64 op,.int .i64 n,.string s,.slice none 0 0] 24)):=((((Below.refl _ w).alloc (Nat.le_refl _) _).alloc (by simp) _).alloc (by simp; omega) _).alloc (by simp; omega) _;have A1:((((w.alloc (.cells #[.int .i64 op,.int .i64 n,.string s,.slice none 0 0] 24)).alloc (.cells #[.bool false] 4)).alloc (.cells #[.int .i64 0] 3)).alloc (.cells #[.int .i64 op,.int .i64 n,.string s,.slice none 0 0] 24)).heap.size=w.heap.size+4:=by simp
 obtain⟨W0,A3⟩:∃ W0,((((w.alloc (.cells #[.int .i64 op,.int .i64 n,.string s,.slice none 0 0] 24)).alloc (.cells #[.bool false] 4)).alloc (.cells #[.int .i64 0] 3)).alloc (.cells #[.int .i64 op,.int .i64 n,.string s,.slice none 0 0] 24))=W0:=⟨_,rfl⟩
 rw[A3] at bR bN bC A4 A1 ⊢;clear A3;refine wpIn_rangeFunc_ownH (F:=Fence.wide) rfl h1 (gf:=99) (lb:=#[.pointer (some ⟨w.heap.size+1+1+1,0,none⟩)]) rfl trivial (enters_of Tryz.func99 (by kernel_rfl) rfl)
  (zol (w.heap.size+1+1+1) w.heap.size op n s W0 bC (by omega)) KpC.trans (znq (by omega)) (Below.refl _ _) (fun _=>rfl)
  (fun (pre:List Unit) W=>(Boxed W (w.heap.size+1+1) 3 (.int .i64 (pre.length:Int))∧Boxed W (w.heap.size+1) 4 (.bool false))∧Below w.heap.size w W)
  (fun _ _ _=>False)
  (OwnFrom.and (OwnFrom.and (Own.from (boxed_own _ _ (fun (pre:List Unit)=>.int .i64 (pre.length:Int))) _) (Own.from (boxed_own _ _ (fun (_:List Unit)=>.bool false)) _)) (ownFrom_below (Nat.le_refl _) (by omega)))
  (fun _ _ _ _ _ hs _ _=>hs)
  ⟨⟨bN,bR⟩,A4⟩
  (fun x a' W=>a' = { tmps:=#[.agg #[.int .i64 op,.int .i64 n,.string s,.slice none 0 0],.pointer (some ⟨w.heap.size,0,none⟩),.pointer (some ⟨w.heap.size+1,0,none⟩),.pointer (some ⟨w.heap.size+1+1,0,none⟩),.int .i64 1,.agg #[.int .i64 op,.int .i64 n,.string s,.slice none 0 0],.func (.func 99) #[] #[.pointer (some ⟨w.heap.size+1+1+1,0,none⟩)],.int .i64 1,.agg #[.int .i64 op,.int .i64 n,.string s,.slice none 0 0],undef,undef,undef,undef,undef,undef,undef,undef],defers:=[] })
  (fun x a' s X Y row hs hg hr=>hs)
  ?assign ?body ?done ?stop
 case assign=>
  rintro l pre x W K ⟨⟨hv,hc⟩,hB⟩ hK;rw[show zmp op n s x=#[.int .i64 1,.agg #[.int .i64 op,.int .i64 n,.string s,.slice none 0 0]] from rfl];gi_wp2
  exact hK _ _ (KeepsFrom.refl _ _) ⟨Below.refl _ _,fun k cur t ht hk=>rfl⟩ ⟨⟨hv,hc⟩,hB⟩ rfl
 case body=>
  rintro l pre x a' W hl ⟨r,hr⟩ ⟨⟨hv,A0⟩,hB⟩ rfl A9;have hp:pre.length=0:=by omega
  rw[hp] at hv;have hc:=hv.cell;have hf:=hv.frozen;have A7:=aa hB;have HV:=aa hv;have HC:=aa A0;have A2:∀ v':Value,∀(k:Nat) (cur:Array Value) (t:TypeId),(t=24∨t=135∨t=37)→W.heap[k]? = some (.cells cur t (0,0))→(W.setCell ⟨w.heap.size+1+1,0,none⟩ v').heap[k]? = W.heap[k]?:=by
   intro v' k cur t ht hk;refine Below.heap_setCell _ _ _ k ?_;rintro rfl;have e:=hk.symm.trans (show W.heap[w.heap.size+1+1]? = _ from hv);simp at e;rcases ht with h|h|h<;>exact absurd (h.symm.trans e.2) (by decide)
  have A6:=aa A2;clear A2 hB hv A0 hr;gi_wp2
  refine⟨(KeepsOthers.setCell _ _ _).from _,⟨(Below.refl _ W).setCell (p:=⟨w.heap.size+1+1,0,none⟩) (by simp; omega) _,A6.out _⟩,⟨?_,HC.out.other (by omega) _⟩,A7.out.setCell (p:=⟨w.heap.size+1+1,0,none⟩) (by simp; omega) _⟩;rw[List.length_append,hp];exact HV.out.set _
 case done=>
  rintro D ys W hD rfl ⟨⟨hv,A0⟩,hB⟩ hK;have hc:=A0.cell;have hf:=A0.frozen;gi_wp2
  have hd:(W.setCell ⟨w.heap.size+1,0,none⟩ (.bool true)).heap[D]? = some (.deferred (some [])):=(Below.heap_setCell _ _ _ D (by show D≠w.heap.size+1; omega)).trans hK;refine⟨by simp,.inl ⟨_,_,rfl,run_takeDeferred hd,?_⟩⟩;have A5:((W.setCell ⟨w.heap.size+1,0,none⟩ (.bool true)).putObj D (.deferred none)).cell? ⟨w.heap.size+1,0,none⟩=some (.bool true):=((boxed_own (w.heap.size+1) 4 (fun (_:Unit)=>.bool true)).putObj (s:=()) _ (A0.set (.bool true)) hd rfl).cell;refine⟨.bool true,?_,rfl,(hB.setCell (p:=⟨w.heap.size+1,0,none⟩) (by simp) _).trans (belowK_b (w:=w) (Nat.le_refl _) _ D _ _ (by omega) hd rfl rfl)⟩;simp[results,Tryz.results96,go_sem,A5]
 case stop=>
  rintro D c pre W _ _ h _;exact h.elim
end
section
open Go.RowKit Go.Shelf
set_option maxRecDepth 100000
attribute [local go_sem] Oper.semAt_some
attribute [local go_sem] dp
abbrev Walked (B:Nat)(w0:World):Type:={ x:Int × Co.T × Value // CoreAt B w0 x.2.1 x.2.2 }
def Walked.pr {B:Nat}{w0:World}(x:Walked B w0):Int × Co.T:=(x.1.1,x.1.2.1)
def Walked.enc {B:Nat}{w0:World}(x:Walked B w0):Array Value:=#[.int .i64 x.1.1,x.1.2.2]
structure WalkIt (n₀:Nat)(w0:World)(J:List (Walked n₀ w0)→World→Prop)(t:Co.T)(d:Int)(pre:List (Walked n₀ w0))(W:World)(i:Nat)(ys:List (Walked n₀ w0))(wr:World):Prop where
 pr:ys.map Walked.pr=(d,t)::Co.alls (t.ks.take i) (d+1)
 J:J (pre++ys) wr
 kp:KpC n₀ W wr
theorem zdi (l r:List Co.T)(d:Int):Co.alls (l++r) d=Co.alls l d++Co.alls r d:=by
 induction l with
 |nil=>rfl
 |cons a l ih=>rw[List.cons_append,Co.alls,Co.alls,ih,List.append_assoc]
theorem zsb (t:Co.T)(d:Int):t.all d=(d,t)::Co.alls t.ks (d+1):=by cases t; rfl
theorem zil {α:Type}{l:List α}{i:Nat}{k:α}(h:l[i]? = some k):l.take (i+1)=l.take i++[k]:=by
 rw[List.take_add_one,h]; rfl
theorem znd {ks:List Co.T}{i:Nat}{k:Co.T}(h:ks[i]? = some k):Co.sizes (ks.take i)+k.size≤Co.sizes ks:=by
 induction ks generalizing i with
 |nil=>simp at h
 |cons a r ih=>
  cases i with
  |zero=>
   obtain rfl:a=k:=by simpa using h
   simp only[List.take_zero,Co.sizes];omega
  |succ i=>
   have:=ih (i:=i) (by simpa using h);simp only[List.take_succ_cons,Co.sizes];omega
theorem zls (ks:List Co.T)(d:Int):(Co.alls ks d).length=Co.sizes ks:=by
 induction ks with
 |nil=>rfl
 |cons a r ih=>rw[Co.alls,Co.sizes,List.length_append,Co.all_length,ih]
theorem zlb {ks:List Co.T}{i:Nat}{k:Co.T}(h:ks[i]? = some k)(d:Int){m:List (Int × Co.T)}(hm:m <+: k.all d):Co.alls (ks.take i) d++m <+: Co.alls ks d:=by
 have e:ks=ks.take i++(k::ks.drop (i+1)):=by
  obtain⟨A0,e⟩:=List.getElem?_eq_some_iff.1 h;rw[←e,←List.drop_eq_getElem_cons A0,List.take_append_drop]
 have e2:Co.alls ks d=Co.alls (ks.take i) d++(k.all d++Co.alls (ks.drop (i+1)) d):=by
  refine(congrArg (fun l=>Co.alls l d) e).trans ?_;show Co.alls (ks.take i++(k::ks.drop (i+1))) d=_
  rw[zdi,Co.alls]
 rw[e2];exact List.prefix_append_right_inj _ |>.2 (hm.trans (List.prefix_append _ _))
set_option maxHeartbeats 2000000 in
theorem zsq (l B n₀ By Bs N:Nat)(w0:World)(J Jx:List (Walked n₀ w0)→World→Prop)(hJ:AbidesFrom B J)
  (hY:∀ pre x W1,J pre W1→pre.length<N→YieldAt Fence.wide 5 Tryz.prog l (Walked.enc x) W1 fun e W'=>(e=.returned (.bool true)∧J (pre++[x]) W'∧KpC n₀ W1 W')∨(e=.returned (.bool false)∧Jx (pre++[x]) W'))
  (t:Co.T):∀(d:Int) (v:Value) (pre:List (Walked n₀ w0)) (W:World),CoreAt n₀ w0 t v→0≤d→d+t.size≤10000000→Below n₀ w0 W→n₀≤W.heap.size→B≤W.heap.size →
   W.heap[By]? = some (.cells #[.func (.yield l) #[] #[]] 135 (0,0)) →
   W.heap[Bs]? = some (.cells #[.func (.func 100) #[] #[.pointer (some ⟨By,0,none⟩),.pointer (some ⟨Bs,0,none⟩)]] 37 (0,0)) →
   J pre W→pre.length+t.size≤N →
  Calls Tryz.prog 100 #[v,.int .i64 d,.pointer (some ⟨By,0,none⟩),.pointer (some ⟨Bs,0,none⟩)] W fun e W'=>
   (e=.returned (.bool true)∧KpC n₀ W W'∧∃ ys,ys.map Walked.pr=t.all d∧J (pre++ys) W')∨(e=.returned (.bool false)∧∃ ys,ys.map Walked.pr <+: t.all d∧Jx (pre++ys) W'):=by
 have HY:=aa hY;have HJ:=aa hJ;clear hY hJ;induction t using Co.T.ind with|h op n s ks ih=>?_
 intro d v pre W hv hd C2 hB hn C7 C3 C4 h0 hN;have IH:=aa ih;have HV:=aa hv;obtain⟨p,c,rfl,hc,ho,C9,hs,hk⟩:=hv.open;simp only[Co.T.op,Co.T.n,Co.T.s,Co.T.ks] at hk HV ⊢;simp only[Co.T.ks] at hc;have HC:=aa hc;have HK:=aa hk;have HN:=aa hN;have HD:=aa (And.intro hd C2);have C8:=aa hB;have A9:=aa (And.intro hn C7);have B0:=aa C3;have B1:=aa C4;have H0:=aa h0;clear ih hv hk hc hd C2 hN hB hn C7 C3 C4 h0 ho C9 hs;refine callsIn_wide.1 (show CallsIn Fence.wide 6 _ _ _ _ _ from ?_);refine callsIn_of_wp Tryz.func100 rfl trivial ?_ rfl;simp only[Tryz.ntmps100,List.size_toArray,List.length_cons,List.length_nil,Nat.reduceAdd,Nat.reduceSub,Array.replicate_succ,Array.replicate_zero,List.push_toArray,List.append_toArray,List.nil_append,List.cons_append];have A8:Below W.heap.size W (W.alloc (.cells #[.int .i64 op,.int .i64 n,.string s,.slice p ks.length c] 24)):=(Below.refl _ _).alloc (Nat.le_refl _) _;have hb:=heap_alloc_new W (.cells #[.int .i64 op,.int .i64 n,.string s,.slice p ks.length c] 24);have A6:KpC n₀ W (W.alloc (.cells #[.int .i64 op,.int .i64 n,.string s,.slice p ks.length c] 24)):=⟨A8.mono A9.out.1,fun k cur t _ hk=>A8.block k (af hk)⟩
 have A7:=(A8.block By (af B0.out)).trans B0.out;have D2:(W.alloc (.cells #[.int .i64 op,.int .i64 n,.string s,.slice p ks.length c] 24)).cell? ⟨By,0,none⟩=some (.func (.yield l) #[] #[]):=by simp[World.cell?,A7]
 obtain⟨x0,x1,x2,x3⟩:=ae hb;have C6:=nu HJ.out H0.out A8;obtain⟨fn,tmps,assign,body,hy,hR⟩:=HY.out pre ⟨(d,.mk op n s ks,.agg #[.int .i64 op,.int .i64 n,.string s,.slice p ks.length c]),HV.out⟩ _ C6 (by have:=HN.out; have:=Co.size_pos (.mk op n s ks); omega);dsimp only[Walked.enc] at hy
 have D6:=aa A6;have HB:=aa hb;have HR:=aa hR;clear C6 A8 hb hR A6 A7;gi_wp2
 refine(RoundIn.anyDepth rfl HR.out).mono ?_;rintro e W3 (⟨rfl,C5,B3⟩|⟨rfl,B5⟩)
 ·have D8:=aa ((B3.2 _ _ _ (.inl rfl) HB.out).trans HB.out);obtain⟨y0,y1,y2,y3⟩:=ae D8.out;have D7:=aa (show WalkIt n₀ w0 J (.mk op n s ks) d pre W 0 [⟨(d,.mk op n s ks,.agg #[.int .i64 op,.int .i64 n,.string s,.slice p ks.length c]),HV.out⟩] W3 from⟨rfl,C5,KpC.trans D6.out B3⟩);clear B3 C5 x0 x1 x2 x3;gi_wp2
  clear y0 y1 y2 y3;gi_loopw [17] (fun iv wr=>∃(i:Nat) (ys:List (Walked n₀ w0)),iv=.int .i64 (i:Int)∧i≤ks.length∧Hid (WalkIt n₀ w0 J (.mk op n s ks) d pre W i ys wr)) (fun iv _=>ks.length - (intOf iv).toNat)
  case atStart=>exact⟨0,_,rfl,Nat.zero_le _,D7⟩
  case round=>
   obtain⟨i,ys,rfl,hi,HI⟩:=hrel;by_cases C1:i<ks.length
   ·obtain⟨k,hk⟩:∃ k,ks[i]? = some k:=⟨_,List.getElem?_eq_getElem C1⟩
    obtain⟨vk,A5,B2⟩:=HK.out i k hk;obtain⟨b,off,x,y,z,u,e,hl,B7,r0,r1,r2,r3⟩:=A5.kept (C8.out.trans HI.out.kp.1) (Nat.le_refl _);subst e;have D4:=aa B2;obtain⟨pk,ck,rfl, -, -, -, -, -⟩:=B2.open;obtain⟨rfl,rfl,rfl,rfl⟩:.int .i64 k.op=x∧.int .i64 k.n=y∧.string k.s=z∧.slice pk k.ks.length ck=u:=by simpa using B7
    clear B7;have g0:decide ((i:Int)<(ks.length:Int))=true:=by simp; omega
    have j1:(0:Int)≤(i:Int):=by omega
    have j2:(i:Int)<(ks.length:Int):=by omega
    have D5:=aa hk;have HL:=aa hl;have A1:=(HI.out.kp.2 _ _ _ (.inr (.inr rfl)) B1.out).trans B1.out;have D9:wr.cell? ⟨Bs,0,none⟩=some (.func (.func 100) #[] #[.pointer (some ⟨By,0,none⟩),.pointer (some ⟨Bs,0,none⟩)]):=by simp[World.cell?,A1]
    have E2:Bs<wr.heap.size:=af A1;have E1:IntKind.i64.wrap (d+1)=d+1:=IntWalk.i64_in _ (by have:=HD.out; omega);have E0:IntKind.i64.wrap ((i:Int)+1)=(i:Int)+1:=IntWalk.i64_in _ (by have:=HD.out; have h2:=Co.sizes_len ks; rw[Co.T.size] at this; omega);clear hk B2 hl A5 A1;gi_wp2
    have B4:=aa ((Below.refl wr.heap.size wr).alloc (Nat.le_refl _) (.cells #[.int .i64 k.op,.int .i64 k.n,.string k.s,.slice pk k.ks.length ck] 24));have D0:KpC n₀ wr _:=⟨B4.out.mono (by have:=A9.out.1; have:=HI.out.kp.1.size; omega),fun k' cur t _ D1=>B4.out.block k' (af D1)⟩
    have A2:=aa (KpC.trans HI.out.kp D0);have B8:=HI.out.kp.1.size;have A0:=D5.out;have B9:=znd A0;have B6:ys.length=1+Co.sizes (ks.take i):=by
     have:=congrArg List.length HI.out.pr;rw[List.length_map,List.length_cons,zls] at this;simp only[Co.T.ks] at this;omega
    refine⟨trivial,(callsIn_wide.2 (IH.out k (List.mem_of_getElem? A0) (d+1) _ (pre++ys) _ D4.out ?_ ?_ ?_ ?_ ?_ ?_ ?_ ?_ ?_)).mono ?_⟩
    ·have:=HD.out; omega
    ·have:=HD.out; rw[Co.T.size] at this; omega
    ·exact C8.out.trans A2.out.1
    ·exact Nat.le_trans A9.out.1 A2.out.1.size
    ·exact Nat.le_trans A9.out.2 A2.out.1.size
    ·exact(A2.out.2 _ _ _ (.inr (.inl rfl)) B0.out).trans B0.out
    ·exact(A2.out.2 _ _ _ (.inr (.inr rfl)) B1.out).trans B1.out
    ·exact nu HJ.out HI.out.J B4.out
    ·have:=HN.out; rw[Co.T.size] at this; rw[List.length_append]; omega
    ·rintro e W4 (⟨rfl,C0,zs,A4,A3⟩|⟨rfl,zs,A4,A3⟩)
     ·have D3:=aa (show WalkIt n₀ w0 J (.mk op n s ks) d pre W (i+1) (ys++zs) W4 from⟨by rw[List.map_append,HI.out.pr,A4]; simp only[Co.T.ks]; rw[zil A0,zdi]; simp[Co.alls],by rw[←List.append_assoc]; exact A3,KpC.trans A2.out C0⟩);clear C0 A4 A3 B9 B6 A0 B8;gi_wp2
      go_roundw;case rel=>exact⟨i+1,_,by simp,by omega,D3⟩
      case measure=>simp only[intOf]; omega
     ·have hp:=zlb A0 (d+1) A4;have HZ:=aa A3;have HP:=aa hp;clear A4 A3 hp B9 B6 A0 B8;gi_wp2
      go_ret;exact .inr ⟨rfl,ys++zs,by rw[List.map_append,HI.out.pr,zsb,List.cons_append]; exact List.cons_prefix_cons.2 ⟨rfl,HP.out⟩,by rw[←List.append_assoc]; exact HZ.out⟩
   ·obtain rfl:i=ks.length:=by omega
    have g9:decide (ks.length<ks.length)=false:=by simp
    clear C1;gi_wp2
    go_ret;exact .inl ⟨rfl,HI.out.kp,ys,by have:=HI.out.pr; simp only[Co.T.ks,List.take_length] at this; exact this,HI.out.J⟩
 ·gi_wp2
  go_ret;exact .inr ⟨rfl,_,by rw[zsb]; exact List.prefix_append [(d,_)] _,B5⟩
theorem zmt (F:Fence)(n:Nat)(h5:F.fn 48)(A0:F.round=none)(op k:Int)(s:ByteArray)(p:Option Addr)(len c:Nat)(w:World):
  CallsIn F n Tryz.prog 48 #[.agg #[.int .i64 op,.int .i64 k,.string s,.slice p len c]] w fun e w'=>e=.returned (.func (.func 99) #[] #[.pointer (some ⟨w.heap.size,0,none⟩)])∧w'=w.alloc (.cells #[.int .i64 op,.int .i64 k,.string s,.slice p len c] 24):=by
 refine callsIn_of_wp Tryz.func48 rfl h5 ?_ A0;simp only[Tryz.ntmps48,List.size_toArray,List.length_cons,List.length_nil,Nat.reduceAdd,Nat.reduceSub,Array.replicate_succ,Array.replicate_zero,List.push_toArray,List.append_toArray,List.nil_append,List.cons_append];gi_wp2
 go_ret;exact⟨rfl,rfl⟩
def zfl {B:Nat}{w0:World}(t:Co.T)(xs:List (Walked B w0)):Prop:=xs.map Walked.pr=t.all 1
def zcf {B:Nat}{w0:World}(t:Co.T)(xs:List (Walked B w0)):Prop:=xs.map Walked.pr <+: t.all 1
set_option maxHeartbeats 2000000 in
theorem zfi (Bc n₀:Nat)(w0:World)(t:Co.T)(op n:Int)(s:ByteArray)(p:Option Addr)(len c:Nat)(w:World)(hT:CoreAt n₀ w0 t (.agg #[.int .i64 op,.int .i64 n,.string s,.slice p len c]))(A8:t.size≤2000000)(A6:Below n₀ w0 w)
  (A4:w.heap[Bc]? = some (.cells #[.int .i64 op,.int .i64 n,.string s,.slice p len c] 24 (0,0))) (hn:n₀≤w.heap.size):
  SeqStopsK Fence.wide 6 Tryz.prog 99 #[.pointer (some ⟨Bc,0,none⟩)] (Walked.enc (B:=n₀) (w0:=w0)) (KpC n₀) (zfl t) (zcf t) t.size w:=by
 intro l J Jx W hW hJ A9 hY h0;have HC:=aa ((hW.block Bc (af A4)).trans A4);have HY:=aa hY;have HJ:=aa hJ;have H0:=aa h0;have HW:=aa (A6.trans (hW.mono hn));have A7:=aa (Nat.le_trans hn hW.size);clear hY hJ h0 hW A9 A6;refine callsIn_of_wp Tryz.func99 rfl trivial ?_ rfl;simp only[Tryz.ntmps99,List.size_toArray,List.length_cons,List.length_nil,Nat.reduceAdd,Nat.reduceSub,Array.replicate_succ,Array.replicate_zero,List.push_toArray,List.append_toArray,List.nil_append,List.cons_append];have bW:=Boxed.new (W.alloc (.cells #[.func (.yield l) #[] #[]] 135)) 37 .nilFunc;simp only[World.size_alloc] at bW;have z0:=bW.cell;have z1:=bW.frozen;have A0:Below W.heap.size W ((W.alloc (.cells #[.func (.yield l) #[] #[]] 135)).alloc (.cells #[.func (.func 100) #[] #[.pointer (some ⟨W.heap.size,0,none⟩),.pointer (some ⟨W.heap.size+1,0,none⟩)]] 37)):=((Below.refl _ _).alloc (Nat.le_refl _) _).alloc (by simp) _;have A5:=(A0.block Bc (af HC.out)).trans HC.out;obtain⟨x0,x1,x2,x3⟩:=ae A5;have A3:=(Boxed.new W 135 (.func (.yield l) #[] #[])).alloc (.cells #[.func (.func 100) #[] #[.pointer (some ⟨W.heap.size,0,none⟩),.pointer (some ⟨W.heap.size+1,0,none⟩)]] 37);have A1:=Boxed.new (W.alloc (.cells #[.func (.yield l) #[] #[]] 135)) 37 (.func (.func 100) #[] #[.pointer (some ⟨W.heap.size,0,none⟩),.pointer (some ⟨W.heap.size+1,0,none⟩)]);simp only[World.size_alloc] at A1;have A2:=aa (zsq l W.heap.size n₀ W.heap.size (W.heap.size+1) t.size w0 J Jx HJ.out (fun pre x W1=>HY.out pre x W1) t 1 _ [] _ hT (by omega) (by omega) (HW.out.trans (A0.mono A7.out)) (Nat.le_trans A7.out A0.size) A0.size A3 A1 (nu HJ.out H0.out A0) (by simp));clear A0 A5 A3 A1 A8;gi_wp2
 refine⟨trivial,(callsIn_wide.2 A2.out).mono ?_⟩;rintro e W3 (⟨rfl,h2,ys,h1,h3⟩|⟨rfl,ys,h1,h3⟩)
 ·gi_wp2
  refine bodyPost_end (results_none rfl _ _ _) rfl ?_;exact⟨⟨_,rfl⟩,.inl ⟨ys,h1,h3⟩⟩
 ·gi_wp2
  refine bodyPost_end (results_none rfl _ _ _) rfl ?_;exact⟨⟨_,rfl⟩,.inr ⟨ys,h1,h3⟩⟩
end
section
open Go.RowKit Go.Shelf
set_option maxRecDepth 100000
attribute [local go_sem] Oper.semAt_some
attribute [local go_sem] dp
def Co.small (t:Co.T):Bool:=decide (t.size≤2000) && (t.all 1).all fun x=>decide (x.1≤200)
theorem zpb {B:Nat}{w0:World}{t:Co.T}{xs:List (Walked B w0)}(h:zfl t xs)(h1:xs.length≤2000)(h2:∀ x∈xs,x.1.1≤200):Co.small t=true:=by
 unfold Co.small;unfold zfl at h;have hl:t.size=xs.length:=by rw[←Co.all_length t 1,←h,List.length_map]
 rw[Bool.and_eq_true,List.all_eq_true];refine⟨decide_eq_true (by omega),fun y hy=>?_⟩;rw[←h] at hy;obtain⟨x,hx,rfl⟩:=List.mem_map.1 hy;exact decide_eq_true (h2 x hx)
theorem zti {B:Nat}{w0:World}{t:Co.T}{xs:List (Walked B w0)}(h:zcf t xs)(hb:2000<xs.length∨∃ x∈xs,200<x.1.1):Co.small t=false:=by
 unfold Co.small;unfold zcf at h;rcases hb with hb|⟨x,hx,hd⟩
 ·have:=h.length_le;rw[List.length_map,Co.all_length] at this;rw[decide_eq_false (by omega),Bool.false_and]
 ·have hy:x.pr∈t.all 1:=h.subset (List.mem_map_of_mem hx);rw[Bool.and_eq_false_iff];right;rw[List.all_eq_false];exact⟨x.pr,hy,by show ¬decide (x.1.1≤200)=true; rw[decide_eq_true_eq]; omega⟩
set_option maxHeartbeats 2000000 in
theorem zga (t:Co.T)(v:Value)(w:World)(hT:CoreAt w.heap.size w t v)(B5:t.size≤2000000):
  Calls Tryz.prog 96 #[v] w (ar (.bool (Co.small t)) w):=by
 obtain⟨p,c,B1, -, -, -, -, -⟩:=hT.open;obtain⟨op,n,s,len,rfl⟩:∃ op n s len,v=.agg #[.int .i64 op,.int .i64 n,.string s,.slice p len c]:=⟨_,_,_,_,B1⟩
 clear B1;have HT:=aa hT;clear hT;refine callsIn_wide.1 (show CallsIn Fence.wide 7 _ _ _ _ _ from ?_);have h1:1≤7:=by omega
 refine callsIn_of_wp_marks Tryz.func96 rfl trivial ?_ rfl;simp only[Tryz.ntmps96,List.size_toArray,List.length_cons,List.length_nil,Nat.reduceAdd,Nat.reduceSub,Array.replicate_succ,Array.replicate_zero,List.push_toArray,List.append_toArray,List.nil_append,List.cons_append];have C0:∀(p:Value) (w:World),(binOp BinOp.eql 100 (.func (.func 99) #[] #[p]) .nilFunc).run Tryz.prog w=.ok (.bool false) w:=fun _ _=>by kernel_rfl
 have C6:Fence.wide.fn 48:=trivial;gi_wp2_with (gi_at_call 48; refine(zmt Fence.wide 6 trivial rfl op n s p len c _).mono ?_; rintro e w' ⟨rfl,rfl⟩)
 have bR:=((Boxed.new (w.alloc (.cells #[.int .i64 op,.int .i64 n,.string s,.slice p len c] 24)) 4 (.bool false)).alloc (.cells #[.int .i64 0] 3)).alloc (.cells #[.int .i64 op,.int .i64 n,.string s,.slice p len c] 24);have bN:=(Boxed.new ((w.alloc (.cells #[.int .i64 op,.int .i64 n,.string s,.slice p len c] 24)).alloc (.cells #[.bool false] 4)) 3 (.int .i64 0)).alloc (.cells #[.int .i64 op,.int .i64 n,.string s,.slice p len c] 24);have bC:=heap_alloc_new (((w.alloc (.cells #[.int .i64 op,.int .i64 n,.string s,.slice p len c] 24)).alloc (.cells #[.bool false] 4)).alloc (.cells #[.int .i64 0] 3)) (.cells #[.int .i64 op,.int .i64 n,.string s,.slice p len c] 24);simp only[World.size_alloc] at bR bN bC;have A8:Below w.heap.size w ((((w.alloc (.cells #[.int .i64 op,.int .i64 n,.string s,.slice p len c] 24)).alloc (.cells #[.bool false] 4)).alloc (.cells #[.int .i64 0] 3)).alloc (.cells #[.int .i64 op,.int .i64 n,.string s,.slice p len c] 24)):=((((Below.refl _ w).alloc (Nat.le_refl _) _).alloc (by simp) _).alloc (by simp; omega) _).alloc (by simp; omega) _;have A4:((((w.alloc (.cells #[.int .i64 op,.int .i64 n,.string s,.slice p len c] 24)).alloc (.cells #[.bool false] 4)).alloc (.cells #[.int .i64 0] 3)).alloc (.cells #[.int .i64 op,.int .i64 n,.string s,.slice p len c] 24)).heap.size=w.heap.size+4:=by simp
 obtain⟨W0,B3⟩:∃ W0,((((w.alloc (.cells #[.int .i64 op,.int .i64 n,.string s,.slice p len c] 24)).alloc (.cells #[.bool false] 4)).alloc (.cells #[.int .i64 0] 3)).alloc (.cells #[.int .i64 op,.int .i64 n,.string s,.slice p len c] 24))=W0:=⟨_,rfl⟩
 rw[B3] at bR bN bC A8 A4 ⊢;clear B3;refine wpIn_rangeFunc_ownH (F:=Fence.wide) rfl h1 (gf:=99) (lb:=#[.pointer (some ⟨w.heap.size+1+1+1,0,none⟩)]) rfl trivial (enters_of Tryz.func99 (by kernel_rfl) rfl)
  (zfi (w.heap.size+1+1+1) w.heap.size w t op n s p len c W0 HT.out B5 A8 bC (by omega)) KpC.trans (znq (by omega)) (Below.refl _ _) (fun _=>rfl)
  (fun (pre:List (Walked w.heap.size w)) W=>(((pre.length≤2000∧∀ x∈pre,x.1.1≤200)∧Boxed W (w.heap.size+1+1) 3 (.int .i64 (pre.length:Int)))∧Boxed W (w.heap.size+1) 4 (.bool false))∧Below w.heap.size w W)
  (fun c (pre:List (Walked w.heap.size w)) W=>((c=.ret∧(2000<pre.length∨∃ x∈pre,200<x.1.1))∧Boxed W (w.heap.size+1) 4 (.bool false))∧Below w.heap.size w W)
  (OwnFrom.and (OwnFrom.and (OwnFrom.and (ownFrom_pure _ _) (Own.from (boxed_own _ _ (fun (pre:List (Walked w.heap.size w))=>.int .i64 (pre.length:Int))) _)) (Own.from (boxed_own _ _ (fun (_:List (Walked w.heap.size w))=>.bool false)) _)) (ownFrom_below (Nat.le_refl _) (by omega)))
  (fun c=>OwnFrom.and (OwnFrom.and (ownFrom_pure _ _) (Own.from (boxed_own _ _ (fun (_:List (Walked w.heap.size w))=>.bool false)) _)) (ownFrom_below (Nat.le_refl _) (by omega)))
  ⟨⟨⟨by simp,bN⟩,bR⟩,A8⟩
  (fun x a' W=>a' = { tmps:=#[.agg #[.int .i64 op,.int .i64 n,.string s,.slice p len c],.pointer (some ⟨w.heap.size,0,none⟩),.pointer (some ⟨w.heap.size+1,0,none⟩),.pointer (some ⟨w.heap.size+1+1,0,none⟩),.int .i64 x.1.1,.agg #[.int .i64 op,.int .i64 n,.string s,.slice p len c],.func (.func 99) #[] #[.pointer (some ⟨w.heap.size+1+1+1,0,none⟩)],.int .i64 x.1.1,x.1.2.2,undef,undef,undef,undef,undef,undef,undef,undef],defers:=[] })
  (fun x a' s X Y row hs hg hr=>hs)
  ?assign ?body ?done ?stop
 case assign=>
  rintro l pre x W K ⟨⟨⟨hp,hv⟩,hc⟩,hB⟩ hK;rw[show Walked.enc x=#[.int .i64 x.1.1,x.1.2.2] from rfl];gi_wp2
  exact hK _ _ (KeepsFrom.refl _ _) ⟨Below.refl _ _,fun k cur t ht hk=>rfl⟩ ⟨⟨⟨hp,hv⟩,hc⟩,hB⟩ rfl
 case body=>
  rintro l pre x a' W hl ⟨r,hr⟩ ⟨⟨⟨hp,hv⟩,A0⟩,hB⟩ rfl C1;have HX:=aa hp;clear hp;obtain⟨⟨d,tt,vv⟩,hx⟩:=x;have B9:IntKind.i64.wrap ((pre.length:Int)+1)=(pre.length:Int)+1:=IntWalk.i64_in _ (by omega);have hc:=hv.cell;have hf:=hv.frozen;have A3:=A0.cell;have C3:=A0.frozen;have C7:=aa hB;have HV:=aa hv;have HC:=aa A0;have B2:∀ v':Value,∀(k:Nat) (cur:Array Value) (t:TypeId),(t=24∨t=135∨t=37)→W.heap[k]? = some (.cells cur t (0,0))→(W.setCell ⟨w.heap.size+1+1,0,none⟩ v').heap[k]? = W.heap[k]?:=by
   intro v' k cur t ht hk;refine Below.heap_setCell _ _ _ k ?_;rintro rfl;have e:=hk.symm.trans (show W.heap[w.heap.size+1+1]? = _ from hv);simp at e;rcases ht with h|h|h<;>exact absurd (h.symm.trans e.2) (by decide)
  have B8:=aa B2;have A5:=hv.set (.int .i64 ((pre.length:Int)+1));have A2:=A0.other (by omega:w.heap.size+1≠w.heap.size+1+1) (.int .i64 ((pre.length:Int)+1));have C5:=A2.cell;have C2:=A2.frozen;have C4:=A5.cell;have B4:=hB.setCell (p:=⟨w.heap.size+1+1,0,none⟩) (by simp; omega) (.int .i64 ((pre.length:Int)+1));have B7:=aa A5;have A9:=aa A2;have B0:=aa B4;clear B2 hB hv A0 hr A5 A2 B4;by_cases h1:2000<pre.length+1
  ·have g1:decide ((2000:Int)<(pre.length:Int)+1)=true:=decide_eq_true (by omega);gi_wp2
   refine⟨(KeepsOthers.trans (KeepsOthers.setCell _ _ _) (KeepsOthers.setCell _ _ _)).from _,⟨⟨rfl,.inl (by rw[List.length_append]; simp only[List.length_cons,List.length_nil]; omega)⟩,A9.out.set _⟩,B0.out.setCell (p:=⟨w.heap.size+1,0,none⟩) (by simp) _⟩
  ·have g1:decide ((2000:Int)<(pre.length:Int)+1)=false:=decide_eq_false (by omega);by_cases h2:200<d
   ·have g2:decide (200<d)=true:=decide_eq_true h2;gi_wp2
    refine⟨(KeepsOthers.trans (KeepsOthers.setCell _ _ _) (KeepsOthers.setCell _ _ _)).from _,⟨⟨rfl,.inr ⟨⟨(d,tt,vv),hx⟩,by simp,h2⟩⟩,A9.out.set _⟩,B0.out.setCell (p:=⟨w.heap.size+1,0,none⟩) (by simp) _⟩
   ·have g2:decide (200<d)=false:=decide_eq_false h2;have B6:=aa (show ∀ y∈pre++[(⟨(d,tt,vv),hx⟩:Walked w.heap.size w)],y.1.1≤200 from fun y hy=>by
     rcases List.mem_append.1 hy with hy|hy
     ·exact HX.out.2 y hy
     ·rw[List.mem_singleton] at hy;subst hy;show d≤200
      omega)
    gi_wp2
    refine⟨(KeepsOthers.setCell _ _ _).from _,⟨(Below.refl _ W).setCell (p:=⟨w.heap.size+1+1,0,none⟩) (by simp; omega) _,B8.out _⟩,⟨⟨⟨by rw[List.length_append]; simp only[List.length_cons,List.length_nil]; omega,?_⟩,?_⟩,A9.out⟩,B0.out⟩
    ·simpa using B6.out
    ·rw[List.length_append];exact B7.out
 case done=>
  rintro D ys W hD A7 ⟨⟨⟨hp,hv⟩,A0⟩,hB⟩ hK;have hc:=A0.cell;have hf:=A0.frozen;gi_wp2
  have hd:(W.setCell ⟨w.heap.size+1,0,none⟩ (.bool true)).heap[D]? = some (.deferred (some [])):=(Below.heap_setCell _ _ _ D (by show D≠w.heap.size+1; omega)).trans hK;refine⟨by simp,.inl ⟨_,_,rfl,run_takeDeferred hd,?_⟩⟩;have A3:((W.setCell ⟨w.heap.size+1,0,none⟩ (.bool true)).putObj D (.deferred none)).cell? ⟨w.heap.size+1,0,none⟩=some (.bool true):=((boxed_own (w.heap.size+1) 4 (fun (_:Unit)=>.bool true)).putObj (s:=()) _ (A0.set (.bool true)) hd rfl).cell;refine⟨.bool true,?_,by rw[zpb A7 hp.1 hp.2],(hB.setCell (p:=⟨w.heap.size+1,0,none⟩) (by simp) _).trans (belowK_b (w:=w) (Nat.le_refl _) _ D _ _ (by omega) hd rfl rfl)⟩;simp[results,Tryz.results96,go_sem,A3]
 case stop=>
  rintro D c pre W hD A1 ⟨⟨⟨rfl,A6⟩,A0⟩,hB⟩ hK;have hc:=A0.cell;have hf:=A0.frozen;gi_wp2
  refine⟨by simp,.inl ⟨_,_,rfl,run_takeDeferred hK,?_⟩⟩;have A3:(W.putObj D (.deferred none)).cell? ⟨w.heap.size+1,0,none⟩=some (.bool false):=((boxed_own (w.heap.size+1) 4 (fun (_:Unit)=>.bool false)).putObj (s:=()) _ A0 hK rfl).cell;refine⟨.bool false,?_,by rw[zti A1 A6],hB.trans (belowK_b (w:=w) (Nat.le_refl _) _ D _ _ (by omega) hK rfl rfl)⟩;simp[results,Tryz.results96,go_sem,A3]
end
end Go.Proofs.YtanlmbbalamgkaaGreatDoor
