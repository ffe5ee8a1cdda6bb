/- Proved: lemmas and contracts of the functions that the law reaches, part 26 of 35: OptRow, OptRewrite, OptDo. Conditions: as each states. -/
import Derived.Test.YtanlmbbalamgkaaGreatDoorVmp23
namespace Go.Proofs.YtanlmbbalamgkaaGreatDoor
set_option linter.unusedVariables false
set_option linter.unusedSimpArgs false
section
open Go.RowKit
set_option maxRecDepth 100000
abbrev Q4:Type:=Value × Value × Value × Value
def Q4.val (q:Q4):Value:=.agg #[q.1,q.2.1,q.2.2.1,q.2.2.2]
def Q4.cells (q:Q4):List Value:=[q.1,q.2.1,q.2.2.1,q.2.2.2]
theorem zqv:(Tryz.prog.info? 24).map (fun i=>(i.zero,i.size,i.bytes))=some (some (.agg #[.int .i64 0,.int .i64 0,.string ⟨#[]⟩,.slice none 0 0]),4,56):=by kernel_rfl
def KidsOwn (ok:Nat→Prop)(base:Nat)(us:List Co.T)(kv:Value)(W:World):Prop:=∃ qs:List Q4,qs.length=us.length∧W.ownsRow base 24 4 kv us.length (qs.flatMap Q4.cells) ∧
 ∀(j:Nat) u,us[j]? = some u→∃ q:Q4,qs[j]? = some q∧CoreIn (fun b=>(ok b∨base≤b)∧kv.ownBlock≠some b) W u q.val
theorem KidsOwn.nil (ok:Nat→Prop)(base:Nat)(W:World):KidsOwn ok base [] (.slice none 0 0) W:=
 ⟨[],rfl,⟨rfl,.inl ⟨rfl,rfl⟩⟩,fun j u h=>by simp at h⟩
theorem KidsOwn.keep {ok:Nat→Prop}{base:Nat}{us:List Co.T}{kv:Value}{W W':World}(h:KidsOwn ok base us kv W)(hk:∀ b,(ok b∨base≤b)→b<W.heap.size→W'.heap[b]? = W.heap[b]?):KidsOwn ok base us kv W':=by
 obtain⟨qs,h1,h2,h3⟩:=h;refine⟨qs,h1,⟨h2.1,h2.2.imp id fun⟨g,cap,cur,e1,e2,e3,e4⟩=>⟨g,cap,cur,e1,e2,(hk g (.inr e2) (af e3)).trans e3,e4⟩⟩,fun j u hj=>?_⟩;obtain⟨q,h4,h5⟩:=h3 j u hj;exact⟨q,h4,h5.keep fun b hb hl=>⟨hb,hk b hb.1 hl⟩⟩
theorem KidsOwn.push {ok:Nat→Prop}{base:Nat}{us:List Co.T}{kv:Value}{W W':World}{qs:List Q4}{u:Co.T}{q:Q4}{g cap:Nat}(A0:qs.length=us.length)
  (hold:∀(j:Nat) u,us[j]? = some u→∃ q:Q4,qs[j]? = some q∧CoreIn (fun b=>(ok b∨base≤b)∧kv.ownBlock≠some b) W u q.val) (hu:CoreIn (fun b=>(ok b∨base≤b)∧kv.ownBlock≠some b) W u q.val)
  (A1:W'.ownsRow base 24 4 (.slice (some ⟨g,0,none⟩) (us.length+1) cap) (us.length+1) (qs.flatMap Q4.cells++q.cells)) (hg:W.grownBy W' kv.ownBlock) (A4:kv.ownBlock=some g∨g=W.heap.size):
  KidsOwn ok base (us++[u]) (.slice (some ⟨g,0,none⟩) (us.length+1) cap) W':=by
 have key:∀ b,((ok b∨base≤b)∧kv.ownBlock≠some b)→b<W.heap.size→((ok b∨base≤b)∧(Value.slice (some ⟨g,0,none⟩) (us.length+1) cap).ownBlock≠some b)∧W'.heap[b]? = W.heap[b]?:=by
  intro b hb hl;refine⟨⟨hb.1,fun e=>?_⟩,hg.block b hl (fun e=>hb.2 e.symm)⟩;have e':g=b:=Option.some.inj e;rcases A4 with h|h
  ·exact hb.2 (h.trans (by rw[e']))
  ·omega
 refine⟨qs++[q],by simp[A0],?_,fun j x hj=>?_⟩
 ·rw[List.length_append,List.flatMap_append];simpa using A1
 ·by_cases A2:j<us.length
  ·rw[List.getElem?_append_left A2] at hj;obtain⟨q',h4,h5⟩:=hold j x hj;exact⟨q',by rw[List.getElem?_append_left (by omega)]; exact h4,h5.keep key⟩
  ·have A3:=(List.getElem?_eq_some_iff.1 hj).1;simp only[List.length_append,List.length_cons,List.length_nil] at A3;obtain rfl:j=us.length:=by omega
   have:u=x:=by simpa using hj
   subst this;exact⟨q,by rw[←A0]; simp,hu.keep key⟩
theorem KidsOwn.value {ok:Nat→Prop}{base:Nat}{us:List Co.T}{kv:Value}{W:World}(h:KidsOwn ok base us kv W){op n:Int}{s:ByteArray}(ho:I64 op)(hn:I64 n)(hs:s.size≤2000000):
  CoreIn (fun b=>ok b∨base≤b) W (.mk op n s us) (.agg #[.int .i64 op,.int .i64 n,.string s,kv]):=by
 obtain⟨qs,h1,h2,h3⟩:=h;rcases h2.2 with⟨rfl,e⟩|⟨g,cap,cur,rfl,hb,hg,A1,A2, -⟩
 ·obtain rfl:us=[]:=List.length_eq_zero_iff.1 e;exact CoreIn.close (ks:=[]) ⟨Nat.le_refl _,by unfold maxLen; omega⟩ ho hn hs (fun i k e=>by simp at e)
 ·refine CoreIn.close ⟨A1,A2⟩ ho hn hs (fun j u hj=>?_);obtain⟨q,h4,h5⟩:=h3 j u hj;have hc:∀ r v,q.cells[r]? = some v→r<4→W.cell? ⟨g,0+j * 4+r,none⟩=some v:=by
   intro r v hr A0
   have:=h2.cells (g:=g) rfl (j * 4+r) v (by rw[Rw.cells_at Q4.cells 4 (fun _=>rfl) qs j q r h4 A0]; exact hr);rw[Rw.add_gen] at this;simpa using this
  exact⟨q.val,⟨g,0,_,_,_,_,rfl,.inr hb,rfl,hc 0 _ rfl (by omega),hc 1 _ rfl (by omega),hc 2 _ rfl (by omega),hc 3 _ rfl (by omega)⟩,h5.wk fun b hb=>hb.1⟩
theorem CoreIn.lt {ok:Nat→Prop}{W:World}{t:Co.T}{v:Value}(h:CoreIn ok W t v):CoreIn (fun b=>ok b∧b<W.heap.size) W t v:=h.keep fun b hb hl=>⟨⟨hb,hl⟩,rfl⟩
theorem zdp {P:Nat→Prop}(h:∃ n,P n):∃ m,P m∧∀ k,P k→m≤k:=by
 obtain⟨n,hn⟩:=h;induction n using Nat.strongRecOn with
 |_ n ih=>
  by_cases hs:∃ k,k<n∧P k
  ·obtain⟨k,hk,hp⟩:=hs;exact ih k hk hp
  ·refine⟨n,hn,fun k hk=>?_⟩;rcases Nat.lt_or_ge k n with h|h
   ·exact absurd ⟨k,h,hk⟩ hs
   ·exact h
open Classical in
noncomputable def zcp (P:Nat→Prop):Nat:=if h:∃ n,P n then Classical.choose (zdp h) else 0
theorem zjh {P:Nat→Prop}{n:Nat}(h:P n):P (zcp P):=by
 unfold zcp;rw[dif_pos ⟨n,h⟩];exact(Classical.choose_spec (zdp ⟨n,h⟩)).1
theorem zjg {P:Nat→Prop}{n:Nat}(h:P n):zcp P≤n:=by
 unfold zcp;rw[dif_pos ⟨n,h⟩];exact(Classical.choose_spec (zdp ⟨n,h⟩)).2 n h
end
section
open Go.RowKit
set_option maxRecDepth 100000
def zsg (ok:Nat→Prop)(u:Co.T)(w:World)(e:Ending)(w':World):Prop:=Below w.heap.size w w'∧∃ v,e=.returned v∧CoreIn (fun b=>ok b∨w.heap.size≤b) w' u v
structure RwBox (w:World)(C:Array Value)(p:Int)(W:World):Prop where
 below:Below w.heap.size w W
 c:W.heap[w.heap.size]? = some (.cells C 24 (0,0))
 p:W.heap[w.heap.size+1]? = some (.cells #[.int .i64 p] 3 (0,0))
 r:W.heap[w.heap.size+1+1]? = some (.cells #[.int .i64 0,.int .i64 0,.string ⟨#[]⟩,.slice none 0 0] 24 (0,0))
theorem RwBox.keep {w:World}{C:Array Value}{p:Int}{W W':World}(h:RwBox w C p W)(hb:Below w.heap.size w W')(hk:∀ b,w.heap.size≤b→b<w.heap.size+3→W'.heap[b]? = W.heap[b]?):RwBox w C p W':=
 ⟨hb,(hk _ (by omega) (by omega)).trans h.c,(hk _ (by omega) (by omega)).trans h.p,(hk _ (by omega) (by omega)).trans h.r⟩
theorem RwBox.more {w:World}{C:Array Value}{p:Int}{W W':World}(h:RwBox w C p W)(hb:Below W.heap.size W W'):RwBox w C p W':=
 h.keep (h.below.trans (hb.mono h.below.size)) (fun b _ hl=>hb.block b (by have:=af h.r; omega))
structure RwIt (ok:Nat→Prop)(w:World)(ob:Nat)(C:Array Value)(p op n:Int)(s:ByteArray)(us:List Co.T)(kv:Value)(W:World):Prop where
 box:RwBox w C p W
 o:W.heap[ob]? = some (.cells #[.int .i64 op,.int .i64 n,.string s,kv] 24 (0,0))
 own:KidsOwn ok (ob+1) us kv W
theorem RwIt.more {ok:Nat→Prop}{w:World}{ob:Nat}{C:Array Value}{p op n:Int}{s:ByteArray}{us:List Co.T}{kv:Value}{W W':World}(h:RwIt ok w ob C p op n s us kv W)(hb:Below W.heap.size W W'):RwIt ok w ob C p op n s us kv W':=
 ⟨h.box.more hb,(hb.block _ (af h.o)).trans h.o,h.own.keep fun b _ hl=>hb.block b hl⟩
structure RwFit (ok:Nat→Prop)(w:World)(ob:Nat)(C:Array Value)(p:Int)(F cur:Co.T)(W:World):Prop where
 box:RwBox w C p W
 o:∃ x y z u,W.heap[ob]? = some (.cells #[x,y,z,u] 24 (0,0))∧CoreIn (fun b=>ok b∨ob+1≤b) W cur (.agg #[x,y,z,u])
 x:cur.letter≠0
 f:Co.settle p cur=F
set_option maxHeartbeats 8000000 in
theorem zkq (p:Int)(hp:0≤p∧p≤15)(t:Co.T):∀(ok:Nat→Prop) (v:Value) (rb:Nat) (w:World),(∀ b,ok b→b<w.heap.size)→CoreIn ok w t v→t.letter≠0→zcs w rb →
  Calls Tryz.prog 45 #[v,.int .i64 p,.slice (some ⟨rb,0,none⟩) 7 7] w (zsg ok (t.rw p) w):=by
 induction t using Co.T.ind with|h op n s ks ih=>?_
 intro ok v rb w G5 hv hx hr;obtain⟨q,c,rfl,hc,ho,hn,hs,hk⟩:=hv.open;simp only[Co.T.op,Co.T.n,Co.T.s,Co.T.ks] at hc ho hn hs hk hv ⊢;have J0:=aa (fun k hk ok v rb w h1 h2 h3=>ih k hk ok v rb w h1 h2 (Co.kids_ne hx k hk) h3);have HV:=aa hv;have HK:=aa hk;have B7:=aa G5;have HX:=aa hx;have D0:=aa hr;have HP:=aa hp;have E6:=aa (And.intro ho (And.intro hn hs));have G6:ks.length≤3:=Co.kids_len (t:=.mk op n s ks) hx;have H3:=aa G6;have z1:∀(W:World) (o:Obj) (k:Nat) (x:Obj),W.heap[k]? = some x→(W.alloc o).heap[k]? = some x:=fun W o k x h=>(((Below.refl W.heap.size W).alloc (Nat.le_refl _) o).block k (af h)).trans h;have C5:=aa (show RwBox w #[.int .i64 op,.int .i64 n,.string s,.slice q ks.length c] p (((w.alloc (.cells #[.int .i64 op,.int .i64 n,.string s,.slice q ks.length c] 24)).alloc (.cells #[.int .i64 p] 3)).alloc (.cells #[.int .i64 0,.int .i64 0,.string ⟨#[]⟩,.slice none 0 0] 24)) from by
  refine⟨(((Below.refl _ w).alloc (Nat.le_refl _) _).alloc (by simp) _).alloc (by simp; omega) _,z1 _ _ _ _ (z1 _ _ _ _ (heap_alloc_new w _)),z1 _ _ _ _ ?_,?_⟩
  ·have:=heap_alloc_new (w.alloc (.cells #[.int .i64 op,.int .i64 n,.string s,.slice q ks.length c] 24)) (.cells #[.int .i64 p] 3);simpa only[World.size_alloc] using this
  ·have:=heap_alloc_new ((w.alloc (.cells #[.int .i64 op,.int .i64 n,.string s,.slice q ks.length c] 24)).alloc (.cells #[.int .i64 p] 3)) (.cells #[.int .i64 0,.int .i64 0,.string ⟨#[]⟩,.slice none 0 0] 24);simpa only[World.size_alloc] using this)
 have G2:(((w.alloc (.cells #[.int .i64 op,.int .i64 n,.string s,.slice q ks.length c] 24)).alloc (.cells #[.int .i64 p] 3)).alloc (.cells #[.int .i64 0,.int .i64 0,.string ⟨#[]⟩,.slice none 0 0] 24)).heap.size=w.heap.size+3:=by simp
 have I7:=aa G2;clear z1 hv hk G5 hx hr hp ho hn hs G6 ih G2;have HC:=aa hc;clear hc;go_enter Tryz.func45,Tryz.ntmps45;go_upto_region 1 with(fail)
 generalize World.alloc _ _=w1 at *;obtain⟨c0,c1,c2,c3⟩:=ae C5.out.c;go_upto_region 2 with(fail)
 have A0:=(Below.refl w1.heap.size w1).alloc (Nat.le_refl _) (.cells #[.int .i64 op,.int .i64 n,.string s,.slice q ks.length c] 24);have A6:=heap_alloc_new w1 (.cells #[.int .i64 op,.int .i64 n,.string s,.slice q ks.length c] 24);have B0:(w1.alloc (.cells #[.int .i64 op,.int .i64 n,.string s,.slice q ks.length c] 24)).heap.size=w1.heap.size+1:=by simp
 have B6:=aa (C5.out.more A0);obtain⟨ob,C8⟩:∃ ob,ob=w1.heap.size:=⟨_,rfl⟩
 rw[←C8] at A6 B0 ⊢;have A5:=aa (show ob=w.heap.size+3 by rw[C8]; exact I7.out);have B8:=aa A6;have I6:=aa B0;clear A0 A6 B0 C8 c0 c1 c2 c3;generalize World.alloc w1 _=w2 at *;obtain⟨c0,c1,c2,c3⟩:=ae B6.out.c;obtain⟨o0,o1,o2,o3⟩:=ae B8.out;have fo:w2.frozen? ⟨ob,3,none⟩=false:=Rw.frozen_of B8.out;have n1:w.heap.size≠ob:=by have:=A5.out; omega
 have n2:ob≠w.heap.size:=fun e=>n1 e.symm;have H6:=aa (show RwIt ok w ob #[.int .i64 op,.int .i64 n,.string s,.slice q ks.length c] p op n s [] (.slice none 0 0) (w2.setCell ⟨ob,3,none⟩ (.slice none 0 0)) from by
  have C8:=A5.out;refine⟨B6.out.keep (B6.out.below.setCell (p:=⟨ob,3,none⟩) (by simp; omega) _) (fun b _ hb=>Below.heap_setCell _ _ _ b (by show b≠ob; omega)),?_,.nil _ _ _⟩;rw[heap_setCell_same _ _ _ _ _ _ B8.out];simp)
 have J7:(w2.setCell ⟨ob,3,none⟩ (.slice none 0 0)).cell? ⟨w.heap.size,3,none⟩=some (.slice q ks.length c):=(ae H6.out.box.c).2.2.2;go_upto_region 3 with(fail)
 generalize World.setCell _ _ _=w3 at *;clear c0 c1 c2 c3 o0 o1 o2 o3 fo;go_wp2_with fail
 go_loopw [17] (fun iv wr=>∃(i:Nat) (kv:Value),iv=.int .i64 (i:Int)∧i≤ks.length∧Hid (RwIt ok w ob #[.int .i64 op,.int .i64 n,.string s,.slice q ks.length c] p op n s (Co.rws p (ks.take i)) kv wr)) (fun iv _=>ks.length - (intOf iv).toNat)
 case atStart=>exact⟨0,_,rfl,Nat.zero_le _,H6⟩
 case round=>
  obtain⟨i,kv,rfl,hi,HJ⟩:=hrel;by_cases G8:i<ks.length
  ·obtain⟨k,D8⟩:∃ k,ks[i]? = some k:=⟨_,List.getElem?_eq_getElem G8⟩
   obtain⟨vk,B9,D4⟩:=HK.out i k D8;obtain⟨b,off,x0,y0,z0,u0,e,J5,D5,r0,r1,r2,r3⟩:=B9.keep (fun b h hl=>⟨h,HJ.out.box.below.block b hl⟩);subst e;have H4:=aa D4;obtain⟨pk,ck,rfl, -, -, -, -, -⟩:=D4.open;obtain⟨kop,D7⟩:∃ o,Hid (k.op=o):=⟨_,aa rfl⟩
   obtain⟨kn,I3⟩:∃ o,Hid (k.n=o):=⟨_,aa rfl⟩
   obtain⟨kst,I2⟩:∃ o,Hid (k.s=o):=⟨_,aa rfl⟩
   obtain⟨kl,I4⟩:∃ o,Hid (k.ks.length=o):=⟨_,aa rfl⟩
   rw[D7.out,I3.out,I2.out,I4.out] at D5 H4;obtain⟨rfl,rfl,rfl,rfl⟩:.int .i64 kop=x0∧.int .i64 kn=y0∧.string kst=z0∧.slice pk kl ck=u0:=by simpa using D5
   have g0:decide ((i:Int)<(ks.length:Int))=true:=by simp; omega
   have j1:(0:Int)≤(i:Int):=by omega
   have j2:(i:Int)<(ks.length:Int):=by omega
   have J6:IntKind.i64.wrap ((i:Int)+1)=(i:Int)+1:=IntWalk.i64_in _ (by have:=H3.out; omega);have H5:=aa D8;clear D5 D8 B9 D4;have A0:=(Below.refl wr.heap.size wr).alloc (Nat.le_refl _) (.cells #[.int .i64 kop,.int .i64 kn,.string kst,.slice pk kl ck] 24);have A6:=heap_alloc_new wr (.cells #[.int .i64 kop,.int .i64 kn,.string kst,.slice pk kl ck] 24);go_upto_region 6 with(fail)
   obtain⟨kb,C3⟩:∃ kb,kb=wr.heap.size:=⟨_,rfl⟩
   rw[←C3] at A6 ⊢;have D3:=aa (HJ.out.more A0);have E9:=aa A6;have L0:=aa A0;have E7:=aa (show ob<kb by rw[C3]; exact af HJ.out.o);have C7:=aa (show ∀ k,kv.ownBlock=some k→k<kb by
    intro k e;obtain⟨_,_,h2,_⟩:=HJ.out.own;rw[C3];exact(World.ownsRow.lt h2 k e).2)
   have E8:=aa (show kb<(wr.alloc (.cells #[.int .i64 kop,.int .i64 kn,.string kst,.slice pk kl ck] 24)).heap.size by rw[C3]; simp);clear A0 A6 C3 r0 r1 r2 r3;generalize World.alloc wr _=w4 at *;have J1:=aa (show(fun W=>W.cell? ⟨ob,3,none⟩=some kv∧(W.cell? ⟨kb,0,none⟩=some (.int .i64 kop)∧W.cell? ⟨kb,1,none⟩=some (.int .i64 kn)∧W.cell? ⟨kb,2,none⟩=some (.string kst)∧W.cell? ⟨kb,3,none⟩=some (.slice pk kl ck))∧W.cell? ⟨w.heap.size+1,0,none⟩=some (.int .i64 p)) w4.drew from⟨(ae D3.out.o).2.2.2,ae E9.out,by show w4.cell? _=_; simp[World.cell?,D3.out.box.p]⟩);go_wp2_with fail
   refine ed (fun W=>W.cell? ⟨ob,3,none⟩=some kv∧(W.cell? ⟨kb,0,none⟩=some (.int .i64 kop)∧W.cell? ⟨kb,1,none⟩=some (.int .i64 kn)∧W.cell? ⟨kb,2,none⟩=some (.string kst)∧W.cell? ⟨kb,3,none⟩=some (.slice pk kl ck))∧W.cell? ⟨w.heap.size+1,0,none⟩=some (.int .i64 p)) 9 [false,false,false,false,false,true,true,true,false,true] (by kernel_rfl) (by kernel_rfl) (by kernel_rfl) J1.out ?_;iterate 5
    apply dn
    ·rfl
    ·intro W hW;obtain⟨h0,⟨h1,h2,h3,h4⟩,h5⟩:=hW;first|(go_simp; done)|(go_simp; with_reducible rfl)
    simp only[Act.put,List.setIfInBounds_toArray,List.set_cons_zero,List.set_cons_succ]
   have B1:=D3.out.box.below.drew;refine jk 45 #[.agg #[.int .i64 kop,.int .i64 kn,.string kst,.slice pk kl ck],.int .i64 p,.slice (some ⟨rb,0,none⟩) 7 7] (fun v w5=>Below w4.drew.heap.size w4.drew w5∧CoreIn (fun b=>ok b∨w4.drew.heap.size≤b) w5 (k.rw p) v) ?_ ?_ ?_ ?_
   ·rfl
   ·go_simp
   ·refine(J0.out k (List.mem_of_getElem? H5.out) ok _ rb w4.drew (fun b h=>Nat.lt_of_lt_of_le (B7.out b h) B1.size) (H4.out.under B1) ?_).mono ?_
    ·exact(B1.block rb (af D0.out)).trans D0.out
    ·rintro e w5 ⟨h1,v,h2,h3⟩;exact⟨v,h2,h1,h3⟩
   rintro v w5 ⟨b5,hu⟩;obtain⟨uop,un,us,up,ul,uc,rfl, -, -, -, -⟩:=dw hu;have C9:Below w4.heap.size w4 w5:=(Below.refl _ w4).drew.trans b5;have F0:=aa (D3.out.more C9);have B4:=aa ((C9.block _ (af E9.out)).trans E9.out);have A0:=(Below.refl w5.heap.size w5).alloc (Nat.le_refl _) (.cells #[.int .i64 uop,.int .i64 un,.string us,.slice up ul uc] 24);have A6:=heap_alloc_new w5 (.cells #[.int .i64 uop,.int .i64 un,.string us,.slice up ul uc] 24);have A4:=aa (F0.out.more A0);have B3:=aa ((A0.block _ (af B4.out)).trans B4.out);have HU:=aa (hu.under A0);have B8:=aa A6;have I8:=aa (show(w5.alloc (.cells #[.int .i64 uop,.int .i64 un,.string us,.slice up ul uc] 24)).heap.size=w5.heap.size+1 by simp);have L1:=aa C9;refine⟨.inr ⟨(ae F0.out.o).2.2.2,ae B4.out,by simp[World.cell?,F0.out.box.p]⟩,?_⟩;simp only[Act.put,List.setIfInBounds_toArray,List.set_cons_zero,List.set_cons_succ];refine dl (v:=.slice (some ⟨w5.heap.size,0,none⟩) 1 1) (w':=w5.alloc (.cells #[.int .i64 uop,.int .i64 un,.string us,.slice up ul uc] 24)) ?_ ?_ ?_ ?_
   ·rfl
   ·go_simp
   ·exact .inr ⟨(ae A4.out.o).2.2.2,ae B3.out,by simp[World.cell?,A4.out.box.p]⟩
   simp only[Act.put,List.setIfInBounds_toArray,List.set_cons_zero,List.set_cons_succ];clear b5 hu C9 A0 A6;obtain⟨b6,E4⟩:∃ b6,b6=w5.heap.size:=⟨_,rfl⟩
   rw[←E4] at B8 I8 ⊢;have J8:=aa E4;clear E4;generalize World.alloc w5 _=w6 at *;obtain⟨qs,G4,D6,G3⟩:=A4.out.own;obtain⟨ti,G0,F9,F8,F7⟩:=Rw.info_split zqv;have I1:(Co.rws p (ks.take i)).length≤3:=by rw[Co.rws_map,List.length_map]; have:=H3.out; have:=List.length_take_le i ks; omega
   refine ky _ _ 22 rfl rfl (ob+1) 24 ti _ 4 56 Tryz.underlying22 G0 F9 F8 F7 rfl (by decide) kv _ _ rfl D6 ⟨b6,0,none⟩ 1 1 [.int .i64 uop,.int .i64 un,.string us,.slice up ul uc] rfl rfl
    (fun j u hj=>?_) (fun u hu=>?_) (by decide) (by unfold maxLen; omega) (by omega) (by have:=af A4.out.o; omega) (fun g cap w7 C0 A8 H1 I0=>?_)
   ·rw[Rw.add_gen,Nat.zero_add];unfold World.cell?;simp only[B8.out];simpa using hj
   ·simp only[List.mem_cons,List.not_mem_nil,or_false] at hu;rcases hu with rfl|rfl|rfl|rfl<;>rfl
   have D9:∀ k,kv.ownBlock=some k→ob+1≤k:=fun k e=>(World.ownsRow.lt D6 k e).1;have A1:∀ b,b<ob+1→b<w6.heap.size→w7.heap[b]? = w6.heap[b]?:=fun b hb hl=>A8.block b hl (fun e=>by have:=D9 b e.symm; omega);have C2:=(A1 ob (by omega) (af A4.out.o)).trans A4.out.o;have G7:=(A8.block kb (af B3.out) (fun e=>by have:=C7.out kb e.symm; omega)).trans B3.out;refine⟨.inr ⟨(ae C2).2.2.2,ae G7,by simp[World.cell?,(A1 (w.heap.size+1) (by have:=A5.out; omega) (af A4.out.box.p)).trans A4.out.box.p]⟩,?_⟩;simp only[Act.put,List.setIfInBounds_toArray,List.set_cons_zero,List.set_cons_succ];have E5:=aa (show CoreIn (fun b=>(ok b∨ob+1≤b)∧kv.ownBlock≠some b) w6 (k.rw p) (Q4.val (.int .i64 uop,.int .i64 un,.string us,.slice up ul uc)) from HU.out.wk fun b hb=>by
    have h1:=A5.out;have h2:kb<w4.heap.size:=E8.out;refine⟨hb.imp id (fun h=>by have h3:w4.heap.size≤b:=h; have:=E7.out; omega),fun e=>?_⟩;have h4:=C7.out b e;have h5:=D9 b e;rcases hb with hb|hb
    ·have:=B7.out b hb; omega
    ·have h3:w4.heap.size≤b:=hb;omega)
   have A7:=KidsOwn.push (u:=k.rw p) (q:=(.int .i64 uop,.int .i64 un,.string us,.slice up ul uc)) G4 G3 E5.out C0 A8 H1;have H0:Below w.heap.size w w7:=A4.out.box.below.trans ⟨A8.os,A8.tape,A8.output,A8.size,fun k hk=>A1 k (by have:=A5.out; omega) (Nat.lt_of_lt_of_le hk A4.out.box.below.size)⟩;have D2:=aa (show RwIt ok w ob #[.int .i64 op,.int .i64 n,.string s,.slice (some ⟨b,off,none⟩) ks.length c] p op n s (Co.rws p (ks.take (i+1))) (.slice (some ⟨g,0,none⟩) ((Co.rws p (ks.take i)).length+1) cap) (w7.setCell ⟨ob,3,none⟩ (.slice (some ⟨g,0,none⟩) ((Co.rws p (ks.take i)).length+1) cap)) from by
    have h1:=A5.out;refine⟨A4.out.box.keep (H0.setCell (p:=⟨ob,3,none⟩) (by simp; omega) _) (fun b h2 h3=>(Below.heap_setCell _ _ _ b (by show b≠ob; omega)).trans (A1 b (by omega) (by have:=af A4.out.o; omega))),?_,?_⟩
    ·rw[heap_setCell_same _ _ _ _ _ _ C2];simp
    ·rw[Co.rws_map,zil H5.out,List.map_append,←Co.rws_map];refine A7.keep (fun b hb hl=>Below.heap_setCell _ _ _ b ?_);show b≠ob
     rcases hb with hb|hb
     ·have:=B7.out b hb; omega
     ·omega)
   obtain⟨o0,o1,o2,o3⟩:=ae C2;have fo:w7.frozen? ⟨ob,3,none⟩=false:=Rw.frozen_of C2;clear A7 C0 A8 H1 I0 A1 D9 C2 G7 H0 G4 D6 G3 G0 F9 F8 F7 I1;apply dn
   ·rfl
   ·intro W hW;obtain⟨h0,⟨h1,h2,h3,h4⟩,h5⟩:=hW;first|(go_simp; done)|(go_simp; with_reducible rfl)
   simp only[Act.put,List.setIfInBounds_toArray,List.set_cons_zero,List.set_cons_succ];refine jh (w':=w7.setCell ⟨ob,3,none⟩ (.slice (some ⟨g,0,none⟩) ((Co.rws p (ks.take i)).length+1) cap)) ?_ ?_ ?_ ?_
   ·rfl
   ·go_simp
   ·exact .inl (Nat.le_refl _)
   refine gy ?_;generalize World.setCell _ _ _=w8 at *;clear o0 o1 o2 o3 fo;go_wp2_with fail
   go_roundw;case rel=>exact⟨i+1,_,by go_num,by omega,D2⟩
   case measure=>simp only[intOf]; omega
  ·obtain rfl:i=ks.length:=by omega
   have g0:decide (ks.length<ks.length)=false:=by simp
   clear G8;rw[List.take_length] at HJ;have H7:=aa (show RwFit ok w ob #[.int .i64 op,.int .i64 n,.string s,.slice q ks.length c] p (Co.T.rw p (.mk op n s ks)) (.mk op n s (Co.rws p ks)) wr from by
    refine⟨HJ.out.box,⟨_,_,_,_,HJ.out.o,HJ.out.own.value E6.out.1 E6.out.2.1 E6.out.2.2⟩,?_,by rw[Co.T.rw]⟩
    have:(Co.T.mk op n s (Co.rws p ks)).letter=(Co.T.mk op n s ks).letter:=by
     refine Co.letter_congr ?_;rw[Co.rws_map,List.map_map];exact List.map_congr_left fun k hk=>(Co.rw_spec p k (Co.kids_ne HX.out k hk)).2.letter
    rw[this];exact HX.out)
   obtain⟨F,hF⟩:∃ F,Hid (Co.T.rw p (.mk op n s ks)=F):=⟨_,aa rfl⟩
   rw[hF.out] at H7 ⊢;go_wp2_with fail
   go_loopw [11] (fun _ wr=>Hid (∃ cur,RwFit ok w ob #[.int .i64 op,.int .i64 n,.string s,.slice q ks.length c] p F cur wr)) (fun _ wr=>zcp fun m=>∃ cur,RwFit ok w ob #[.int .i64 op,.int .i64 n,.string s,.slice q ks.length c] p F cur wr∧Co.meas cur=m)
   case atStart=>exact aa ⟨_,H7.out⟩
   case round=>
    obtain⟨C6,A9⟩:=hrel.out;obtain⟨cur,C4,hm⟩:=zjh (P:=fun m=>∃ cur,RwFit ok w ob #[.int .i64 op,.int .i64 n,.string s,.slice q ks.length c] p F cur wr∧Co.meas cur=m) ⟨C6,A9,rfl⟩;have HM:=aa hm;have A2:=aa C4;clear hrel A9 C4 hm C6;obtain⟨ox,oy,oz,ou,C1,E0⟩:=A2.out.o;obtain⟨cop,cn,cst,cp,cl,cc,e, -, -, -,G9⟩:=dw E0;obtain⟨rfl,rfl,rfl,rfl⟩:.int .i64 cop=ox∧.int .i64 cn=oy∧.string cst=oz∧.slice cp cl cc=ou:=by simpa using e.symm
    have HO:=aa C1;have F4:=aa E0;have H8:=aa G9;clear e C1 E0 G9;obtain⟨o0,o1,o2,o3⟩:=ae HO.out;by_cases hz:cl=0
    ·subst hz;have F1:=aa (show F=cur by
      rw[←A2.out.f];exact Co.settle_stop (.inl (List.length_eq_zero_iff.1 H8.out)))
     obtain⟨e0,e1,e2,e3⟩:=ae A2.out.box.r;have f0:∀ o,wr.frozen? ⟨w.heap.size+1+1,o,none⟩=false:=fun o=>Rw.frozen_of A2.out.box.r;have HS:=aa (And.intro (bh A2.out.box.r (.int .i64 cop) (.int .i64 cn) (.string cst) (.slice cp 0 cc)) (jv wr (w.heap.size+1+1) (.int .i64 cop) (.int .i64 cn) (.string cst) (.slice cp 0 cc)));go_wp2_with fail
     obtain⟨E1,E3⟩:=HS.out.1;have hg:=HS.out.2;generalize World.setCell _ _ _=w9 at *;obtain⟨y0,y1,y2,y3⟩:=ae E1;refine bodyPost_ret (v:=.agg #[.int .i64 cop,.int .i64 cn,.string cst,.slice cp 0 cc]) (by simp[results,Tryz.results45,go_sem,y0,y1,y2,y3]) rfl ?_;refine⟨A2.out.box.below.trans (E3 w.heap.size (by omega)),_,rfl,?_⟩;rw[hF.out,F1.out];refine F4.out.keep (fun b hb hl=>⟨hb.imp id (fun h=>by have:=A5.out; omega),hg.block b hl (fun e=>?_)⟩);obtain rfl:w.heap.size+1+1=b:=by simpa using e.symm
     rcases hb with hb|hb
     ·have:=B7.out _ hb; omega
     ·have:=A5.out; omega
    ·have g1:decide ((0:Int)<(cl:Int))=true:=by simp; omega
     have g2:decide (0<cl)=true:=by simp; omega
     have g3:(0:Int)<(cl:Int):=by omega
     have g4:0<cl:=by omega
     have HZ:=aa hz;clear hz;have B2:RuleAsk cur:=⟨A2.out.x,by rw[H8.out]; have:=HZ.out; omega⟩
     have F6:=aa B2;have B5:=aa (zrd (fun b=>(ok b∨ob+1≤b)∧b<wr.heap.size) cur _ rb (w.heap.size+1) p wr (fun b h=>h.2) F4.out.lt B2 HP.out (by simp[World.cell?,A2.out.box.p]) ((A2.out.box.below.block rb (af D0.out)).trans D0.out));clear B2;obtain⟨bo,E2⟩:∃ bo,Hid ((Co.fit p cur).isSome=bo):=⟨_,aa rfl⟩
     go_wp2_with fail
     refine B5.out.mono ?_;rintro e w5 ⟨b5,u,vv,rfl,hu,G1⟩;rw[E2.out];obtain⟨uop,un,us,up,ul,uc,rfl, -, -, -, -⟩:=dw hu;have HU:=aa (show CoreIn (fun b=>ok b∨ob+1≤b) w5 u _ from hu.wk fun b hb=>hb.elim (fun h=>h.1) (fun h=>.inr (by have:=af HO.out; omega)));have I5:=aa G1;have J9:=aa b5;have F3:=aa (F4.out.under b5);have F5:=aa (A2.out.box.more b5);have H2:=aa ((b5.block _ (af HO.out)).trans HO.out);clear b5 hu G1 o0 o1 o2 o3;have A0:=(Below.refl w5.heap.size w5).alloc (Nat.le_refl _) (.cells #[.int .i64 uop,.int .i64 un,.string us,.slice up ul uc] 24);have I9:=aa (heap_alloc_new w5 (.cells #[.int .i64 uop,.int .i64 un,.string us,.slice up ul uc] 24));have E5:=aa (HU.out.under A0);have F2:=aa (F3.out.under A0);have A3:=aa (F5.out.more A0);have D1:=aa ((A0.block _ (af H2.out)).trans H2.out);have J2:=aa A0;obtain⟨o0,o1,o2,o3⟩:=ae D1.out;obtain⟨n0,J4,J3,n3⟩:=ae I9.out;obtain⟨e0,e1,e2,e3⟩:=ae A3.out.r;have f0:∀ o,(w5.alloc (.cells #[.int .i64 uop,.int .i64 un,.string us,.slice up ul uc] 24)).frozen? ⟨w.heap.size+1+1,o,none⟩=false:=fun o=>Rw.frozen_of A3.out.r;have fo:∀ o,(w5.alloc (.cells #[.int .i64 uop,.int .i64 un,.string us,.slice up ul uc] 24)).frozen? ⟨ob,o,none⟩=false:=fun o=>Rw.frozen_of D1.out;clear A0;cases bo with
     |false=>
      have F1:=aa (show F=cur by
       rw[←A2.out.f];exact Co.settle_stop (.inr (by simpa using E2.out)))
      have HS:=aa (And.intro (bh A3.out.r (.int .i64 cop) (.int .i64 cn) (.string cst) (.slice cp cl cc)) (jv (w5.alloc (.cells #[.int .i64 uop,.int .i64 un,.string us,.slice up ul uc] 24)) (w.heap.size+1+1) (.int .i64 cop) (.int .i64 cn) (.string cst) (.slice cp cl cc)));go_wp2_with fail
      obtain⟨E1,E3⟩:=HS.out.1;have hg:=HS.out.2;generalize World.setCell _ _ _=w9 at *;obtain⟨y0,y1,y2,y3⟩:=ae E1;refine bodyPost_ret (v:=.agg #[.int .i64 cop,.int .i64 cn,.string cst,.slice cp cl cc]) (by simp[results,Tryz.results45,go_sem,y0,y1,y2,y3]) rfl ?_;refine⟨A3.out.below.trans (E3 w.heap.size (by omega)),_,rfl,?_⟩;rw[hF.out,F1.out];refine F2.out.keep (fun b hb hl=>⟨hb.imp id (fun h=>by have:=A5.out; omega),hg.block b hl (fun e=>?_)⟩);obtain rfl:w.heap.size+1+1=b:=by simpa using e.symm
      rcases hb with hb|hb
      ·have:=B7.out _ hb; omega
      ·have:=A5.out; omega
     |true=>
      obtain⟨x,hx⟩:∃ x,Co.fit p cur=some x:=Option.isSome_iff_exists.1 E2.out;obtain rfl:u=x:=I5.out x hx;have D2:=aa (show RwFit ok w ob #[.int .i64 op,.int .i64 n,.string s,.slice q ks.length c] p F u (((((w5.alloc (.cells #[.int .i64 uop,.int .i64 un,.string us,.slice up ul uc] 24)).setCell ⟨ob,0,none⟩ (.int .i64 uop)).setCell ⟨ob,1,none⟩ (.int .i64 un)).setCell ⟨ob,2,none⟩ (.string us)).setCell ⟨ob,3,none⟩ (.slice up ul uc)) from by
       have h1:=A5.out;have hs:=bh D1.out (.int .i64 uop) (.int .i64 un) (.string us) (.slice up ul uc);have hg:=jv (w5.alloc (.cells #[.int .i64 uop,.int .i64 un,.string us,.slice up ul uc] 24)) ob (.int .i64 uop) (.int .i64 un) (.string us) (.slice up ul uc);have H9:=Co.fit_step hx A2.out.x;refine⟨A3.out.keep (A3.out.below.trans (hs.2 _ (by omega))) (fun b h2 h3=>hg.block b (by have:=af D1.out; omega) (fun e=>by cases e; omega)),⟨_,_,_,_,hs.1,E5.out.keep (fun b hb hl=>⟨hb,hg.block b hl (fun e=>?_)⟩)⟩,by rw[H9.letter]; exact A2.out.x,?_⟩
       ·obtain rfl:ob=b:=by simpa using e.symm
        rcases hb with hb|hb
        ·have:=B7.out _ hb; omega
        ·omega
       ·rw[←A2.out.f];exact(Co.settle_go A2.out.x (fun h=>by have:=F6.out.some'; rw[h] at this; cases this) hx).symm)
      have E7:=aa (show Co.meas u<Co.meas cur from(Co.fit_step hx A2.out.x).meas);clear hx;go_wp2_with fail
      generalize World.setCell _ _ _=w8 at *;go_roundw;case rel=>exact aa ⟨u,D2.out⟩
      case measure=>
       rw[←HM.out];exact Nat.lt_of_le_of_lt (zjg ⟨u,D2.out,rfl⟩) E7.out
end
section
open Go.RowKit
set_option maxRecDepth 100000
namespace Co
theorem zuw (y:UInt8):(Lib.indexByte [110,98,100,63,99] y == 4)=(y == 99):=by
 have e:∀(b:UInt8) (l:List UInt8),Lib.indexByte (b::l) y=if(b == y)=true then 0 else if(Lib.indexByte l y == -1)=true then -1 else Lib.indexByte l y+1:=fun b l=>rfl
 have e0:Lib.indexByte [] y = -1:=rfl;rw[e,e,e,e,e,e0];by_cases h1:y=110
 ·subst h1; decide
 by_cases h2:y=98
 ·subst h2; decide
 by_cases h3:y=100
 ·subst h3; decide
 by_cases h4:y=63
 ·subst h4; decide
 by_cases h5:y=99
 ·subst h5; decide
 have f:∀ b:UInt8,y≠b→(b == y)=false:=fun b h=>by simpa using fun e=>h e.symm
 rw[f 110 h1,f 98 h2,f 100 h3,f 63 h4,f 99 h5]
 have:(y == 99)=false:=by simpa using h5
 rw[this];rfl
theorem check_good (t:T):t.check=0↔t.good:=by
 unfold T.check T.good T.ty;cases hr:t.right with
 |false=>
  simp only[Bool.false_and,cond_false];constructor
  ·intro h; cases h
  ·rintro⟨h1,h2,h3⟩;unfold T.right at hr;rw[h1,h2] at hr;cases hr
 |true=>
  have hs:small t=true:=by unfold T.right at hr; rw[Bool.and_eq_true] at hr; exact hr.1
  simp only[Bool.true_and,cond_true,zuw];cases hy:(t.letter == 99) with
  |false=>
   simp only[cond_false];constructor
   ·intro h; cases h
   ·rintro⟨h1,h2,h3⟩;rw[h2] at hy;cases hy
  |true=>
   cases ha:t.ahead with
   |true=>simp
   |false=>simp[hs]; simpa using hy
def fits (t:T)(p:Int):Bool:=t.check == 0 && (decide (0≤p) && decide (p≤15))
def opt (t:T)(p:Int):T:=bif fits t p then t.rw p else leaf 0 0
def optE (t:T)(p:Int):Int:=bif fits t p then 0 else 160
end Co
def zwn (ok:Nat→Prop)(t:Co.T)(p:Int)(w:World)(e:Ending)(w':World):Prop:=Below w.heap.size w w'∧∃ v,e=.returned (.tuple #[v,.int .i64 (Co.optE t p)])∧CoreIn (fun b=>ok b∨w.heap.size≤b) w' (Co.opt t p) v
set_option maxHeartbeats 4000000 in
theorem zys (ok:Nat→Prop)(t:Co.T)(v:Value)(p:Int)(w:World)(B7:∀ b,ok b→b<w.heap.size)(hv:CoreIn ok w t v)(C0:t.size≤2000000):
  Calls Tryz.prog 18 #[v,.int .i64 p] w (zwn ok t p w):=by
 obtain⟨op,n,s,q,ln,c,rfl,C1,hn,hs,C2⟩:=dw hv;have HV:=aa hv;have B8:=aa B7;have B9:=aa (fun (W:World) (hb:Below w.heap.size w W)=>zff t _ W ((hv.under hb).at' (Nat.le_refl _)) C0);have B5:=((Below.refl _ w).alloc (Nat.le_refl _) (.cells #[.int .i64 op,.int .i64 n,.string s,.slice q ln c] 24))
 have B4:=B5.alloc (by simp) (.cells #[.int .i64 0,.int .i64 0,.string ⟨#[]⟩,.slice none 0 0] 24);have y0:=heap_alloc_new w (.cells #[.int .i64 op,.int .i64 n,.string s,.slice q ln c] 24);have y1:=heap_alloc_new (w.alloc (.cells #[.int .i64 op,.int .i64 n,.string s,.slice q ln c] 24)) (.cells #[.int .i64 0,.int .i64 0,.string ⟨#[]⟩,.slice none 0 0] 24);have z1:∀(W:World) (o:Obj) (k:Nat) (x:Obj),W.heap[k]? = some x→(W.alloc o).heap[k]? = some x:=fun W o k x h=>(((Below.refl W.heap.size W).alloc (Nat.le_refl _) o).block k (af h)).trans h;replace y0:=z1 _ (.cells #[.int .i64 0,.int .i64 0,.string ⟨#[]⟩,.slice none 0 0] 24) _ _ y0;simp only[World.size_alloc] at y1;obtain⟨ck,A8⟩:∃ ck,Hid (t.check=ck):=⟨_,aa rfl⟩
 rw[A8.out] at B9;clear B5 z1 B7 C1 hn hs C2 hv;go_enter Tryz.func18,Tryz.ntmps18;go_upto_region 1 with(fail)
 generalize World.alloc _ _=w1 at *;have HB:=aa B4;have HC:=aa y0;have HR:=aa y1;obtain⟨c0,c1,c2,c3⟩:=ae y0;clear B4 y0 y1;go_wp2_with fail
 refine(B9.out _ HB.out).mono ?_;rintro e w2 ⟨rfl,b2⟩;have A7:=aa (Below.more HB.out b2);have B2:=aa ((b2.block _ (af HC.out)).trans HC.out);have A4:=aa ((b2.block _ (af HR.out)).trans HR.out);clear b2 c0 c1 c2 c3;obtain⟨c0,c1,c2,c3⟩:=ae B2.out;obtain⟨r0,r1,r2,r3⟩:=ae A4.out;have f0:∀ o,w2.frozen? ⟨w.heap.size+1,o,none⟩=false:=fun o=>Rw.frozen_of A4.out;by_cases A1:ck=0∧0≤p∧p≤15
 ·obtain⟨rfl,h1,h2⟩:=A1;have HF:=aa (show Co.fits t p=true by unfold Co.fits; rw[A8.out]; simp[h1,h2]);have HP:=aa (And.intro h1 h2);have g1:decide (p<0)=false:=decide_eq_false (by omega);have g2:decide (15<p)=false:=decide_eq_false (by omega);clear h1 h2;go_wp2_with fail
  clear c0 c1 c2 c3 r0 r1 r2 r3 f0;refine ed (fun W=>W.heap[w.heap.size]? = some (.cells #[.int .i64 op,.int .i64 n,.string s,.slice q ln c] 24 (0,0))∧W.heap[w.heap.size+1]? = some (.cells #[.int .i64 0,.int .i64 0,.string ⟨#[]⟩,.slice none 0 0] 24 (0,0))) 4 [false,false,true,true,true,true] (by kernel_rfl) (by kernel_rfl) (by kernel_rfl) ⟨B2.out,A4.out⟩ ?_;iterate 2
   apply dn
   ·rfl
   ·intro W hW;obtain⟨d0,d1,d2,d3⟩:=ae hW.1;first|(go_simp; done)|(go_simp; with_reducible rfl)
   simp only[Act.put,List.setIfInBounds_toArray,List.set_cons_zero,List.set_cons_succ]
  refine jk 46 #[] (fun v w'=>v=.slice (some ⟨w2.drew.heap.size,0,none⟩) 7 7∧Below w2.drew.heap.size w2.drew w'∧zcs w' w2.drew.heap.size) ?_ ?_ ?_ ?_
  ·rfl
  ·go_simp
  ·refine(zpf _).mono ?_;rintro e w' ⟨h1,h2,h3⟩;exact⟨_,h1,rfl,h2,h3⟩
  rintro v w3 ⟨rfl,b3,B6⟩;have A9:Below w2.heap.size w2 w3:=(Below.refl _ w2).drew.trans b3;have A6:=aa (A7.out.trans (A9.mono A7.out.size));have B3:=aa ((A9.block _ (af B2.out)).trans B2.out);have B1:=aa ((A9.block _ (af A4.out)).trans A4.out);have C3:=aa B6;refine⟨.inr ⟨B3.out,B1.out⟩,?_⟩;simp only[Act.put,List.setIfInBounds_toArray,List.set_cons_zero,List.set_cons_succ];clear b3 A9 B6;refine jk 45 #[.agg #[.int .i64 op,.int .i64 n,.string s,.slice q ln c],.int .i64 p,.slice (some ⟨w2.drew.heap.size,0,none⟩) 7 7] (fun v w'=>Below w3.heap.size w3 w'∧CoreIn (fun b=>ok b∨w3.heap.size≤b) w' (t.rw p) v) ?_ ?_ ?_ ?_
  ·rfl
  ·go_simp
  ·refine(zkq p HP.out t ok _ w2.drew.heap.size w3 (fun b h=>Nat.lt_of_lt_of_le (B8.out b h) A6.out.size) (HV.out.under A6.out) (by have:=(Co.check_good t).1 A8.out; rw[this.2.1]; decide) C3.out).mono ?_;rintro e w' ⟨h1,v,h2,h3⟩;exact⟨v,h2,h1,h3⟩
  rintro v w4 ⟨b4,hu⟩;obtain⟨uop,un,us,up,ul,uc,rfl, -, -, -, -⟩:=dw hu;have C6:=aa (A6.out.trans (b4.mono A6.out.size));have C4:=aa ((b4.block _ (af B3.out)).trans B3.out);have B0:=aa ((b4.block _ (af B1.out)).trans B1.out);have HU:=aa hu;refine⟨.inr ⟨C4.out,B0.out⟩,?_⟩;simp only[Act.put,List.setIfInBounds_toArray,List.set_cons_zero,List.set_cons_succ];clear b4 hu;obtain⟨r0,r1,r2,r3⟩:=ae B0.out;have f0:∀ o,w4.frozen? ⟨w.heap.size+1,o,none⟩=false:=fun o=>Rw.frozen_of B0.out;have HS:=aa (And.intro (bh B0.out (.int .i64 uop) (.int .i64 un) (.string us) (.slice up ul uc)) (jv w4 (w.heap.size+1) (.int .i64 uop) (.int .i64 un) (.string us) (.slice up ul uc)));refine jh (w':=((((w4.setCell ⟨w.heap.size+1,0,none⟩ (.int .i64 uop)).setCell ⟨w.heap.size+1,1,none⟩ (.int .i64 un)).setCell ⟨w.heap.size+1,2,none⟩ (.string us)).setCell ⟨w.heap.size+1,3,none⟩ (.slice up ul uc))) ?_ ?_ ?_ ?_
  ·rfl
  ·go_simp
  ·exact .inl (Nat.le_refl _)
  clear r0 r1 r2 r3 f0;obtain⟨⟨A0,A2⟩,hg⟩:=HS.out;generalize World.setCell _ _ _=w9 at *;refine dl (v:=.int .i64 0) (w':=w9) ?_ ?_ ?_ ?_
  ·rfl
  ·go_simp
  ·exact .inl (by decide)
  simp only[Act.put,List.setIfInBounds_toArray,List.set_cons_zero,List.set_cons_succ];refine gy ?_;have C5:=aa (And.intro A0 (And.intro A2 hg));clear A0 A2 hg;go_wp2_with fail
  obtain⟨A0,A2,hg⟩:=C5.out;obtain⟨y0,y1,y2,y3⟩:=ae A0;refine bodyPost_ret (v:=.tuple #[.agg #[.int .i64 uop,.int .i64 un,.string us,.slice up ul uc],.int .i64 0]) (by simp[results,Tryz.results18,go_sem,y0,y1,y2,y3]) rfl ?_;refine⟨C6.out.trans (A2 w.heap.size (by omega)),_,by unfold Co.optE; rw[HF.out]; rfl,?_⟩;unfold Co.opt;rw[HF.out];refine HU.out.keep (fun b hb hl=>⟨hb.imp id (fun h=>Nat.le_trans A6.out.size h),hg.block b hl (fun e=>?_)⟩);obtain rfl:w.heap.size+1=b:=by simpa using e.symm
  rcases hb with hb|hb
  ·have:=B8.out _ hb; omega
  ·have:=af B1.out; omega
 ·have HF:=aa (show Co.fits t p=false by
   unfold Co.fits;rw[A8.out];rw[Bool.eq_false_iff];intro h;simp only[Bool.and_eq_true,beq_iff_eq,decide_eq_true_eq] at h;exact A1 h)
  have HS:=aa (bh A4.out (.int .i64 0) (.int .i64 0) (.string ⟨#[]⟩) (.slice none 0 0));have A5:∀ w9:World,w9.heap[w.heap.size+1]? = some (.cells #[.int .i64 0,.int .i64 0,.string ⟨#[]⟩,.slice none 0 0] 24 (0,0))→Below w.heap.size w w9→zwn ok t p w (.returned (.tuple #[.agg #[.int .i64 0,.int .i64 0,.string ⟨#[]⟩,.slice none 0 0],.int .i64 160])) w9:=by
   intro w9 h9 hb;refine⟨hb,_,by unfold Co.optE; rw[HF.out]; rfl,?_⟩;unfold Co.opt;rw[HF.out];exact rz (by unfold I64; omega) (by unfold I64; omega)
  have A3:=aa A5;clear A5;by_cases h0:ck=0
  ·subst h0;by_cases h1:p<0
   ·have g1:decide (p<0)=true:=decide_eq_true h1;clear h1 A1;go_wp2_with fail
    obtain⟨A0,A2⟩:=HS.out;generalize World.setCell _ _ _=w9 at *;obtain⟨y0,y1,y2,y3⟩:=ae A0;refine bodyPost_ret (v:=.tuple #[.agg #[.int .i64 0,.int .i64 0,.string ⟨#[]⟩,.slice none 0 0],.int .i64 160]) (by simp[results,Tryz.results18,go_sem,y0,y1,y2,y3]) rfl ?_;exact A3.out w9 A0 (A7.out.trans (A2 w.heap.size (by omega)))
   ·have g1:decide (p<0)=false:=decide_eq_false h1;have g2:decide (15<p)=true:=decide_eq_true (by omega);clear h1 A1;go_wp2_with fail
    obtain⟨A0,A2⟩:=HS.out;generalize World.setCell _ _ _=w9 at *;obtain⟨y0,y1,y2,y3⟩:=ae A0;refine bodyPost_ret (v:=.tuple #[.agg #[.int .i64 0,.int .i64 0,.string ⟨#[]⟩,.slice none 0 0],.int .i64 160]) (by simp[results,Tryz.results18,go_sem,y0,y1,y2,y3]) rfl ?_;exact A3.out w9 A0 (A7.out.trans (A2 w.heap.size (by omega)))
  ·have g0:(ck != 0)=true:=by simpa using h0
   clear h0 A1;go_wp2_with fail
   obtain⟨A0,A2⟩:=HS.out;generalize World.setCell _ _ _=w9 at *;obtain⟨y0,y1,y2,y3⟩:=ae A0;refine bodyPost_ret (v:=.tuple #[.agg #[.int .i64 0,.int .i64 0,.string ⟨#[]⟩,.slice none 0 0],.int .i64 160]) (by simp[results,Tryz.results18,go_sem,y0,y1,y2,y3]) rfl ?_;exact A3.out w9 A0 (A7.out.trans (A2 w.heap.size (by omega)))
end
end Go.Proofs.YtanlmbbalamgkaaGreatDoor
