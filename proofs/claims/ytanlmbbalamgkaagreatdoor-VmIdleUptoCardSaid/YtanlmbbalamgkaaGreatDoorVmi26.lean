/- Proved: lemmas and contracts of the functions that the law reaches, part 26 of 36: OptRow, OptRewrite, OptDo. Conditions: as each states. -/
import Derived.Test.YtanlmbbalamgkaaGreatDoorVmi23
namespace Go.Proofs.YtanlmbbalamgkaaGreatDoor
set_option linter.unusedVariables false
set_option linter.unusedSimpArgs false
section
open Go.RowKit
set_option maxRecDepth 100000
abbrev Q4:Type:=Value × Value × Value × Value
def Q4.val (q:Q4):Value:=.agg #[q.1,q.2.1,q.2.2.1,q.2.2.2]
def Q4.cells (q:Q4):List Value:=[q.1,q.2.1,q.2.2.1,q.2.2.2]
theorem zzl:(Tryz.prog.info? 24).map (fun i=>(i.zero,i.size,i.bytes))=some (some (.agg #[.int .i64 0,.int .i64 0,.string ⟨#[]⟩,.slice none 0 0]),4,56):=by kernel_rfl
def KidsOwn (ok:Nat→Prop)(base:Nat)(us:List Co.T)(kv:Value)(W:World):Prop:=∃ qs:List Q4,qs.length=us.length∧W.ownsRow base 24 4 kv us.length (qs.flatMap Q4.cells) ∧
 ∀(j:Nat) u,us[j]? = some u→∃ q:Q4,qs[j]? = some q∧CoreIn (fun b=>(ok b∨base≤b)∧kv.ownBlock≠some b) W u q.val
theorem KidsOwn.nil (ok:Nat→Prop)(base:Nat)(W:World):KidsOwn ok base [] (.slice none 0 0) W:=
 ⟨[],rfl,⟨rfl,.inl ⟨rfl,rfl⟩⟩,fun j u h=>by simp at h⟩
theorem KidsOwn.keep {ok:Nat→Prop}{base:Nat}{us:List Co.T}{kv:Value}{W W':World}(h:KidsOwn ok base us kv W)(hk:∀ b,(ok b∨base≤b)→b<W.heap.size→W'.heap[b]? = W.heap[b]?):KidsOwn ok base us kv W':=by
 obtain⟨qs,h1,h2,h3⟩:=h
 refine⟨qs,h1,⟨h2.1,h2.2.imp id fun⟨g,cap,cur,e1,e2,e3,e4⟩=>⟨g,cap,cur,e1,e2,(hk g (.inr e2) (zac e3)).trans e3,e4⟩⟩,fun j u hj=>?_⟩
 obtain⟨q,h4,h5⟩:=h3 j u hj
 exact⟨q,h4,h5.keep fun b hb hl=>⟨hb,hk b hb.1 hl⟩⟩
theorem KidsOwn.push {ok:Nat→Prop}{base:Nat}{us:List Co.T}{kv:Value}{W W':World}{qs:List Q4}{u:Co.T}{q:Q4}{g cap:Nat}(hlen:qs.length=us.length)
  (hold:∀(j:Nat) u,us[j]? = some u→∃ q:Q4,qs[j]? = some q∧CoreIn (fun b=>(ok b∨base≤b)∧kv.ownBlock≠some b) W u q.val) (hu:CoreIn (fun b=>(ok b∨base≤b)∧kv.ownBlock≠some b) W u q.val)
  (hown:W'.ownsRow base 24 4 (.slice (some ⟨g,0,none⟩) (us.length+1) cap) (us.length+1) (qs.flatMap Q4.cells++q.cells)) (hg:W.grownBy W' kv.ownBlock) (hat:kv.ownBlock=some g∨g=W.heap.size):
  KidsOwn ok base (us++[u]) (.slice (some ⟨g,0,none⟩) (us.length+1) cap) W':=by
 have key:∀ b,((ok b∨base≤b)∧kv.ownBlock≠some b)→b<W.heap.size→((ok b∨base≤b)∧(Value.slice (some ⟨g,0,none⟩) (us.length+1) cap).ownBlock≠some b)∧W'.heap[b]? = W.heap[b]?:=by
  intro b hb hl
  refine⟨⟨hb.1,fun e=>?_⟩,hg.block b hl (fun e=>hb.2 e.symm)⟩
  have e':g=b:=Option.some.inj e
  rcases hat with h|h
  ·exact hb.2 (h.trans (by rw[e']))
  ·omega
 refine⟨qs++[q],by simp[hlen],?_,fun j x hj=>?_⟩
 ·rw[List.length_append,List.flatMap_append]
  simpa using hown
 ·by_cases hjl:j<us.length
  ·rw[List.getElem?_append_left hjl] at hj
   obtain⟨q',h4,h5⟩:=hold j x hj
   exact⟨q',by rw[List.getElem?_append_left (by omega)]; exact h4,h5.keep key⟩
  ·have hj':=(List.getElem?_eq_some_iff.1 hj).1
   simp only[List.length_append,List.length_cons,List.length_nil] at hj'
   obtain rfl:j=us.length:=by omega
   have:u=x:=by simpa using hj
   subst this
   exact⟨q,by rw[←hlen]; simp,hu.keep key⟩
theorem KidsOwn.value {ok:Nat→Prop}{base:Nat}{us:List Co.T}{kv:Value}{W:World}(h:KidsOwn ok base us kv W){op n:Int}{s:ByteArray}(ho:I64 op)(hn:I64 n)(hs:s.size≤2000000):
  CoreIn (fun b=>ok b∨base≤b) W (.mk op n s us) (.agg #[.int .i64 op,.int .i64 n,.string s,kv]):=by
 obtain⟨qs,h1,h2,h3⟩:=h
 rcases h2.2 with⟨rfl,e⟩|⟨g,cap,cur,rfl,hb,hg,hnc,hcm, -⟩
 ·obtain rfl:us=[]:=List.length_eq_zero_iff.1 e
  exact CoreIn.close (ks:=[]) ⟨Nat.le_refl _,by unfold maxLen; omega⟩ ho hn hs (fun i k e=>by simp at e)
 ·refine CoreIn.close ⟨hnc,hcm⟩ ho hn hs (fun j u hj=>?_)
  obtain⟨q,h4,h5⟩:=h3 j u hj
  have hc:∀ r v,q.cells[r]? = some v→r<4→W.cell? ⟨g,0+j * 4+r,none⟩=some v:=by
   intro r v hr hr4
   have:=h2.cells (g:=g) rfl (j * 4+r) v (by rw[Rw.cells_at Q4.cells 4 (fun _=>rfl) qs j q r h4 hr4]; exact hr)
   rw[Rw.add_gen] at this
   simpa using this
  exact⟨q.val,⟨g,0,_,_,_,_,rfl,.inr hb,rfl,hc 0 _ rfl (by omega),hc 1 _ rfl (by omega),hc 2 _ rfl (by omega),hc 3 _ rfl (by omega)⟩,h5.wk fun b hb=>hb.1⟩
theorem CoreIn.lt {ok:Nat→Prop}{W:World}{t:Co.T}{v:Value}(h:CoreIn ok W t v):CoreIn (fun b=>ok b∧b<W.heap.size) W t v:=h.keep fun b hb hl=>⟨⟨hb,hl⟩,rfl⟩
theorem znx {P:Nat→Prop}(h:∃ n,P n):∃ m,P m∧∀ k,P k→m≤k:=by
 obtain⟨n,hn⟩:=h
 induction n using Nat.strongRecOn with
 |_ n ih=>
  by_cases hs:∃ k,k<n∧P k
  ·obtain⟨k,hk,hp⟩:=hs
   exact ih k hk hp
  ·refine⟨n,hn,fun k hk=>?_⟩
   rcases Nat.lt_or_ge k n with h|h
   ·exact absurd ⟨k,h,hk⟩ hs
   ·exact h
open Classical in
noncomputable def zna (P:Nat→Prop):Nat:=if h:∃ n,P n then Classical.choose (znx h) else 0
theorem ztb {P:Nat→Prop}{n:Nat}(h:P n):P (zna P):=by
 unfold zna
 rw[dif_pos ⟨n,h⟩]
 exact(Classical.choose_spec (znx ⟨n,h⟩)).1
theorem zta {P:Nat→Prop}{n:Nat}(h:P n):zna P≤n:=by
 unfold zna
 rw[dif_pos ⟨n,h⟩]
 exact(Classical.choose_spec (znx ⟨n,h⟩)).2 n h
end
section
open Go.RowKit
set_option maxRecDepth 100000
def qaz (ok:Nat→Prop)(u:Co.T)(w:World)(e:Ending)(w':World):Prop:=Below w.heap.size w w'∧∃ v,e=.returned v∧CoreIn (fun b=>ok b∨w.heap.size≤b) w' u v
structure RwBox (w:World)(C:Array Value)(p:Int)(W:World):Prop where
 below:Below w.heap.size w W
 c:W.heap[w.heap.size]? = some (.cells C 24 (0,0))
 p:W.heap[w.heap.size+1]? = some (.cells #[.int .i64 p] 3 (0,0))
 r:W.heap[w.heap.size+1+1]? = some (.cells #[.int .i64 0,.int .i64 0,.string ⟨#[]⟩,.slice none 0 0] 24 (0,0))
theorem RwBox.keep {w:World}{C:Array Value}{p:Int}{W W':World}(h:RwBox w C p W)(hb:Below w.heap.size w W')(hk:∀ b,w.heap.size≤b→b<w.heap.size+3→W'.heap[b]? = W.heap[b]?):RwBox w C p W':=
 ⟨hb,(hk _ (by omega) (by omega)).trans h.c,(hk _ (by omega) (by omega)).trans h.p,(hk _ (by omega) (by omega)).trans h.r⟩
theorem RwBox.more {w:World}{C:Array Value}{p:Int}{W W':World}(h:RwBox w C p W)(hb:Below W.heap.size W W'):RwBox w C p W':=
 h.keep (h.below.trans (hb.mono h.below.size)) (fun b _ hl=>hb.block b (by have:=zac h.r; omega))
structure RwIt (ok:Nat→Prop)(w:World)(ob:Nat)(C:Array Value)(p op n:Int)(s:ByteArray)(us:List Co.T)(kv:Value)(W:World):Prop where
 box:RwBox w C p W
 o:W.heap[ob]? = some (.cells #[.int .i64 op,.int .i64 n,.string s,kv] 24 (0,0))
 own:KidsOwn ok (ob+1) us kv W
theorem RwIt.more {ok:Nat→Prop}{w:World}{ob:Nat}{C:Array Value}{p op n:Int}{s:ByteArray}{us:List Co.T}{kv:Value}{W W':World}(h:RwIt ok w ob C p op n s us kv W)(hb:Below W.heap.size W W'):RwIt ok w ob C p op n s us kv W':=
 ⟨h.box.more hb,(hb.block _ (zac h.o)).trans h.o,h.own.keep fun b _ hl=>hb.block b hl⟩
structure RwFit (ok:Nat→Prop)(w:World)(ob:Nat)(C:Array Value)(p:Int)(F cur:Co.T)(W:World):Prop where
 box:RwBox w C p W
 o:∃ x y z u,W.heap[ob]? = some (.cells #[x,y,z,u] 24 (0,0))∧CoreIn (fun b=>ok b∨ob+1≤b) W cur (.agg #[x,y,z,u])
 x:cur.letter≠0
 f:Co.settle p cur=F
set_option maxHeartbeats 8000000 in
theorem zul (p:Int)(hp:0≤p∧p≤15)(t:Co.T):∀(ok:Nat→Prop) (v:Value) (rb:Nat) (w:World),(∀ b,ok b→b<w.heap.size)→CoreIn ok w t v→t.letter≠0→znc w rb →
  Calls Tryz.prog 45 #[v,.int .i64 p,.slice (some ⟨rb,0,none⟩) 7 7] w (qaz ok (t.rw p) w):=by
 induction t using Co.T.ind with|h op n s ks ih=>?_
 intro ok v rb w hok hv hx hr
 obtain⟨q,c,rfl,hc,ho,hn,hs,hk⟩:=hv.open
 simp only[Co.T.op,Co.T.n,Co.T.s,Co.T.ks] at hc ho hn hs hk hv ⊢
 have HIH:=hid' (fun k hk ok v rb w h1 h2 h3=>ih k hk ok v rb w h1 h2 (Co.kids_ne hx k hk) h3)
 have HV:=hid' hv
 have HK:=hid' hk
 have HOK:=hid' hok
 have HX:=hid' hx
 have HRL:=hid' hr
 have HP:=hid' hp
 have HON:=hid' (And.intro ho (And.intro hn hs))
 have hl3:ks.length≤3:=Co.kids_len (t:=.mk op n s ks) hx
 have HL3:=hid' hl3
 have z1:∀(W:World) (o:Obj) (k:Nat) (x:Obj),W.heap[k]? = some x→(W.alloc o).heap[k]? = some x:=fun W o k x h=>(((Below.refl W.heap.size W).alloc (Nat.le_refl _) o).block k (zac h)).trans h
 have hbox:=hid' (show RwBox w #[.int .i64 op,.int .i64 n,.string s,.slice q ks.length c] p (((w.alloc (.cells #[.int .i64 op,.int .i64 n,.string s,.slice q ks.length c] 24)).alloc (.cells #[.int .i64 p] 3)).alloc (.cells #[.int .i64 0,.int .i64 0,.string ⟨#[]⟩,.slice none 0 0] 24)) from by
  refine⟨(((Below.refl _ w).alloc (Nat.le_refl _) _).alloc (by simp) _).alloc (by simp; omega) _,z1 _ _ _ _ (z1 _ _ _ _ (heap_alloc_new w _)),z1 _ _ _ _ ?_,?_⟩
  ·have:=heap_alloc_new (w.alloc (.cells #[.int .i64 op,.int .i64 n,.string s,.slice q ks.length c] 24)) (.cells #[.int .i64 p] 3)
   simpa only[World.size_alloc] using this
  ·have:=heap_alloc_new ((w.alloc (.cells #[.int .i64 op,.int .i64 n,.string s,.slice q ks.length c] 24)).alloc (.cells #[.int .i64 p] 3)) (.cells #[.int .i64 0,.int .i64 0,.string ⟨#[]⟩,.slice none 0 0] 24)
   simpa only[World.size_alloc] using this)
 have hsz:(((w.alloc (.cells #[.int .i64 op,.int .i64 n,.string s,.slice q ks.length c] 24)).alloc (.cells #[.int .i64 p] 3)).alloc (.cells #[.int .i64 0,.int .i64 0,.string ⟨#[]⟩,.slice none 0 0] 24)).heap.size=w.heap.size+3:=by simp
 have HSZ:=hid' hsz
 clear z1 hv hk hok hx hr hp ho hn hs hl3 ih hsz
 have HC:=hid' hc
 clear hc
 go_enter Tryz.func45,Tryz.ntmps45
 go_upto_region 1 with(fail)
 generalize World.alloc _ _=w1 at *
 obtain⟨c0,c1,c2,c3⟩:=zab hbox.out.c
 go_upto_region 2 with(fail)
 have hba:=(Below.refl w1.heap.size w1).alloc (Nat.le_refl _) (.cells #[.int .i64 op,.int .i64 n,.string s,.slice q ks.length c] 24)
 have hno:=heap_alloc_new w1 (.cells #[.int .i64 op,.int .i64 n,.string s,.slice q ks.length c] 24)
 have hsz2:(w1.alloc (.cells #[.int .i64 op,.int .i64 n,.string s,.slice q ks.length c] 24)).heap.size=w1.heap.size+1:=by simp
 have HBX2:=hid' (hbox.out.more hba)
 obtain⟨ob,hob⟩:∃ ob,ob=w1.heap.size:=⟨_,rfl⟩
 rw[←hob] at hno hsz2 ⊢
 have HOB:=hid' (show ob=w.heap.size+3 by rw[hob]; exact HSZ.out)
 have HNO:=hid' hno
 have HSZ2:=hid' hsz2
 clear hba hno hsz2 hob c0 c1 c2 c3
 generalize World.alloc w1 _=w2 at *
 obtain⟨c0,c1,c2,c3⟩:=zab HBX2.out.c
 obtain⟨o0,o1,o2,o3⟩:=zab HNO.out
 have fo:w2.frozen? ⟨ob,3,none⟩=false:=Rw.frozen_of HNO.out
 have n1:w.heap.size≠ob:=by have:=HOB.out; omega
 have n2:ob≠w.heap.size:=fun e=>n1 e.symm
 have HIT:=hid' (show RwIt ok w ob #[.int .i64 op,.int .i64 n,.string s,.slice q ks.length c] p op n s [] (.slice none 0 0) (w2.setCell ⟨ob,3,none⟩ (.slice none 0 0)) from by
  have hob:=HOB.out
  refine⟨HBX2.out.keep (HBX2.out.below.setCell (p:=⟨ob,3,none⟩) (by simp; omega) _) (fun b _ hb=>Below.heap_setCell _ _ _ b (by show b≠ob; omega)),?_,.nil _ _ _⟩
  rw[heap_setCell_same _ _ _ _ _ _ HNO.out]
  simp)
 have cc3:(w2.setCell ⟨ob,3,none⟩ (.slice none 0 0)).cell? ⟨w.heap.size,3,none⟩=some (.slice q ks.length c):=(zab HIT.out.box.c).2.2.2
 go_upto_region 3 with(fail)
 generalize World.setCell _ _ _=w3 at *
 clear c0 c1 c2 c3 o0 o1 o2 o3 fo
 go_wp2_with fail
 go_loopw [17] (fun iv wr=>∃(i:Nat) (kv:Value),iv=.int .i64 (i:Int)∧i≤ks.length∧Hid (RwIt ok w ob #[.int .i64 op,.int .i64 n,.string s,.slice q ks.length c] p op n s (Co.rws p (ks.take i)) kv wr)) (fun iv _=>ks.length - (intOf iv).toNat)
 case atStart=>exact⟨0,_,rfl,Nat.zero_le _,HIT⟩
 case round=>
  obtain⟨i,kv,rfl,hi,HJ⟩:=hrel
  by_cases hik:i<ks.length
  ·obtain⟨k,hkk⟩:∃ k,ks[i]? = some k:=⟨_,List.getElem?_eq_getElem hik⟩
   obtain⟨vk,hrow,hvk⟩:=HK.out i k hkk
   obtain⟨b,off,x0,y0,z0,u0,e,hlb,hve,r0,r1,r2,r3⟩:=hrow.keep (fun b h hl=>⟨h,HJ.out.box.below.block b hl⟩)
   subst e
   have HKV:=hid' hvk
   obtain⟨pk,ck,rfl, -, -, -, -, -⟩:=hvk.open
   obtain⟨kop,hkop⟩:∃ o,Hid (k.op=o):=⟨_,hid' rfl⟩
   obtain⟨kn,hkn⟩:∃ o,Hid (k.n=o):=⟨_,hid' rfl⟩
   obtain⟨kst,hks⟩:∃ o,Hid (k.s=o):=⟨_,hid' rfl⟩
   obtain⟨kl,hkl⟩:∃ o,Hid (k.ks.length=o):=⟨_,hid' rfl⟩
   rw[hkop.out,hkn.out,hks.out,hkl.out] at hve HKV
   obtain⟨rfl,rfl,rfl,rfl⟩:.int .i64 kop=x0∧.int .i64 kn=y0∧.string kst=z0∧.slice pk kl ck=u0:=by simpa using hve
   have g0:decide ((i:Int)<(ks.length:Int))=true:=by simp; omega
   have j1:(0:Int)≤(i:Int):=by omega
   have j2:(i:Int)<(ks.length:Int):=by omega
   have hiw:IntKind.i64.wrap ((i:Int)+1)=(i:Int)+1:=IntWalk.i64_in _ (by have:=HL3.out; omega)
   have HKK:=hid' hkk
   clear hve hkk hrow hvk
   have hba:=(Below.refl wr.heap.size wr).alloc (Nat.le_refl _) (.cells #[.int .i64 kop,.int .i64 kn,.string kst,.slice pk kl ck] 24)
   have hno:=heap_alloc_new wr (.cells #[.int .i64 kop,.int .i64 kn,.string kst,.slice pk kl ck] 24)
   go_upto_region 6 with(fail)
   obtain⟨kb,hkb⟩:∃ kb,kb=wr.heap.size:=⟨_,rfl⟩
   rw[←hkb] at hno ⊢
   have HJ2:=hid' (HJ.out.more hba)
   have HKB:=hid' hno
   have HB2:=hid' hba
   have HLT:=hid' (show ob<kb by rw[hkb]; exact zac HJ.out.o)
   have HOWN:=hid' (show ∀ k,kv.ownBlock=some k→k<kb by
    intro k e
    obtain⟨_,_,h2,_⟩:=HJ.out.own
    rw[hkb]
    exact(World.ownsRow.lt h2 k e).2)
   have HLE4:=hid' (show kb<(wr.alloc (.cells #[.int .i64 kop,.int .i64 kn,.string kst,.slice pk kl ck] 24)).heap.size by rw[hkb]; simp)
   clear hba hno hkb r0 r1 r2 r3
   generalize World.alloc wr _=w4 at *
   have HF4:=hid' (show(fun W=>W.cell? ⟨ob,3,none⟩=some kv∧(W.cell? ⟨kb,0,none⟩=some (.int .i64 kop)∧W.cell? ⟨kb,1,none⟩=some (.int .i64 kn)∧W.cell? ⟨kb,2,none⟩=some (.string kst)∧W.cell? ⟨kb,3,none⟩=some (.slice pk kl ck))∧W.cell? ⟨w.heap.size+1,0,none⟩=some (.int .i64 p)) w4.drew from⟨(zab HJ2.out.o).2.2.2,zab HKB.out,by show w4.cell? _=_; simp[World.cell?,HJ2.out.box.p]⟩)
   go_wp2_with fail
   refine zbu (fun W=>W.cell? ⟨ob,3,none⟩=some kv∧(W.cell? ⟨kb,0,none⟩=some (.int .i64 kop)∧W.cell? ⟨kb,1,none⟩=some (.int .i64 kn)∧W.cell? ⟨kb,2,none⟩=some (.string kst)∧W.cell? ⟨kb,3,none⟩=some (.slice pk kl ck))∧W.cell? ⟨w.heap.size+1,0,none⟩=some (.int .i64 p)) 9 [false,false,false,false,false,true,true,true,false,true] (by kernel_rfl) (by kernel_rfl) (by kernel_rfl) HF4.out ?_
   iterate 5
    apply zbi
    ·rfl
    ·intro W hW
     obtain⟨h0,⟨h1,h2,h3,h4⟩,h5⟩:=hW
     first|(go_simp; done)|(go_simp; with_reducible rfl)
    simp only[Act.put,List.setIfInBounds_toArray,List.set_cons_zero,List.set_cons_succ]
   have hent:=HJ2.out.box.below.drew
   refine zdt 45 #[.agg #[.int .i64 kop,.int .i64 kn,.string kst,.slice pk kl ck],.int .i64 p,.slice (some ⟨rb,0,none⟩) 7 7] (fun v w5=>Below w4.drew.heap.size w4.drew w5∧CoreIn (fun b=>ok b∨w4.drew.heap.size≤b) w5 (k.rw p) v) ?_ ?_ ?_ ?_
   ·rfl
   ·go_simp
   ·refine(HIH.out k (List.mem_of_getElem? HKK.out) ok _ rb w4.drew (fun b h=>Nat.lt_of_lt_of_le (HOK.out b h) hent.size) (HKV.out.under hent) ?_).mono ?_
    ·exact(hent.block rb (zac HRL.out)).trans HRL.out
    ·rintro e w5 ⟨h1,v,h2,h3⟩
     exact⟨v,h2,h1,h3⟩
   rintro v w5 ⟨b5,hu⟩
   obtain⟨uop,un,us,up,ul,uc,rfl, -, -, -, -⟩:=zbn hu
   have b45:Below w4.heap.size w4 w5:=(Below.refl _ w4).drew.trans b5
   have HJ5:=hid' (HJ2.out.more b45)
   have HKB5:=hid' ((b45.block _ (zac HKB.out)).trans HKB.out)
   have hba:=(Below.refl w5.heap.size w5).alloc (Nat.le_refl _) (.cells #[.int .i64 uop,.int .i64 un,.string us,.slice up ul uc] 24)
   have hno:=heap_alloc_new w5 (.cells #[.int .i64 uop,.int .i64 un,.string us,.slice up ul uc] 24)
   have HJ6:=hid' (HJ5.out.more hba)
   have HKB6:=hid' ((hba.block _ (zac HKB5.out)).trans HKB5.out)
   have HU:=hid' (hu.under hba)
   have HNO:=hid' hno
   have HS6:=hid' (show(w5.alloc (.cells #[.int .i64 uop,.int .i64 un,.string us,.slice up ul uc] 24)).heap.size=w5.heap.size+1 by simp)
   have H45:=hid' b45
   refine⟨.inr ⟨(zab HJ5.out.o).2.2.2,zab HKB5.out,by simp[World.cell?,HJ5.out.box.p]⟩,?_⟩
   simp only[Act.put,List.setIfInBounds_toArray,List.set_cons_zero,List.set_cons_succ]
   refine zbg (v:=.slice (some ⟨w5.heap.size,0,none⟩) 1 1) (w':=w5.alloc (.cells #[.int .i64 uop,.int .i64 un,.string us,.slice up ul uc] 24)) ?_ ?_ ?_ ?_
   ·rfl
   ·go_simp
   ·exact .inr ⟨(zab HJ6.out.o).2.2.2,zab HKB6.out,by simp[World.cell?,HJ6.out.box.p]⟩
   simp only[Act.put,List.setIfInBounds_toArray,List.set_cons_zero,List.set_cons_succ]
   clear b5 hu b45 hba hno
   obtain⟨b6,hb6⟩:∃ b6,b6=w5.heap.size:=⟨_,rfl⟩
   rw[←hb6] at HNO HS6 ⊢
   have HB6:=hid' hb6
   clear hb6
   generalize World.alloc w5 _=w6 at *
   obtain⟨qs,hq1,hq2,hq3⟩:=HJ6.out.own
   obtain⟨ti,ti1,ti2,ti3,ti4⟩:=Rw.info_split zzl
   have hle:(Co.rws p (ks.take i)).length≤3:=by rw[Co.rws_map,List.length_map]; have:=HL3.out; have:=List.length_take_le i ks; omega
   refine zef _ _ 22 rfl rfl (ob+1) 24 ti _ 4 56 Tryz.underlying22 ti1 ti2 ti3 ti4 rfl (by decide) kv _ _ rfl hq2 ⟨b6,0,none⟩ 1 1 [.int .i64 uop,.int .i64 un,.string us,.slice up ul uc] rfl rfl
    (fun j u hj=>?_) (fun u hu=>?_) (by decide) (by unfold maxLen; omega) (by omega) (by have:=zac HJ6.out.o; omega) (fun g cap w7 hown hgr hat hlt=>?_)
   ·rw[Rw.add_gen,Nat.zero_add]
    unfold World.cell?
    simp only[HNO.out]
    simpa using hj
   ·simp only[List.mem_cons,List.not_mem_nil,or_false] at hu
    rcases hu with rfl|rfl|rfl|rfl<;>rfl
   have hge:∀ k,kv.ownBlock=some k→ob+1≤k:=fun k e=>(World.ownsRow.lt hq2 k e).1
   have hkeep:∀ b,b<ob+1→b<w6.heap.size→w7.heap[b]? = w6.heap[b]?:=fun b hb hl=>hgr.block b hl (fun e=>by have:=hge b e.symm; omega)
   have ho7:=(hkeep ob (by omega) (zac HJ6.out.o)).trans HJ6.out.o
   have hk7:=(hgr.block kb (zac HKB6.out) (fun e=>by have:=HOWN.out kb e.symm; omega)).trans HKB6.out
   refine⟨.inr ⟨(zab ho7).2.2.2,zab hk7,by simp[World.cell?,(hkeep (w.heap.size+1) (by have:=HOB.out; omega) (zac HJ6.out.box.p)).trans HJ6.out.box.p]⟩,?_⟩
   simp only[Act.put,List.setIfInBounds_toArray,List.set_cons_zero,List.set_cons_succ]
   have HU6:=hid' (show CoreIn (fun b=>(ok b∨ob+1≤b)∧kv.ownBlock≠some b) w6 (k.rw p) (Q4.val (.int .i64 uop,.int .i64 un,.string us,.slice up ul uc)) from HU.out.wk fun b hb=>by
    have h1:=HOB.out
    have h2:kb<w4.heap.size:=HLE4.out
    refine⟨hb.imp id (fun h=>by have h3:w4.heap.size≤b:=h; have:=HLT.out; omega),fun e=>?_⟩
    have h4:=HOWN.out b e
    have h5:=hge b e
    rcases hb with hb|hb
    ·have:=HOK.out b hb; omega
    ·have h3:w4.heap.size≤b:=hb
     omega)
   have hpush:=KidsOwn.push (u:=k.rw p) (q:=(.int .i64 uop,.int .i64 un,.string us,.slice up ul uc)) hq1 hq3 HU6.out hown hgr hat
   have hb7:Below w.heap.size w w7:=HJ6.out.box.below.trans ⟨hgr.os,hgr.tape,hgr.output,hgr.size,fun k hk=>hkeep k (by have:=HOB.out; omega) (Nat.lt_of_lt_of_le hk HJ6.out.box.below.size)⟩
   have HNX:=hid' (show RwIt ok w ob #[.int .i64 op,.int .i64 n,.string s,.slice (some ⟨b,off,none⟩) ks.length c] p op n s (Co.rws p (ks.take (i+1))) (.slice (some ⟨g,0,none⟩) ((Co.rws p (ks.take i)).length+1) cap) (w7.setCell ⟨ob,3,none⟩ (.slice (some ⟨g,0,none⟩) ((Co.rws p (ks.take i)).length+1) cap)) from by
    have h1:=HOB.out
    refine⟨HJ6.out.box.keep (hb7.setCell (p:=⟨ob,3,none⟩) (by simp; omega) _) (fun b h2 h3=>(Below.heap_setCell _ _ _ b (by show b≠ob; omega)).trans (hkeep b (by omega) (by have:=zac HJ6.out.o; omega))),?_,?_⟩
    ·rw[heap_setCell_same _ _ _ _ _ _ ho7]
     simp
    ·rw[Co.rws_map,zsj HKK.out,List.map_append,←Co.rws_map]
     refine hpush.keep (fun b hb hl=>Below.heap_setCell _ _ _ b ?_)
     show b≠ob
     rcases hb with hb|hb
     ·have:=HOK.out b hb; omega
     ·omega)
   obtain⟨o0,o1,o2,o3⟩:=zab ho7
   have fo:w7.frozen? ⟨ob,3,none⟩=false:=Rw.frozen_of ho7
   clear hpush hown hgr hat hlt hkeep hge ho7 hk7 hb7 hq1 hq2 hq3 ti1 ti2 ti3 ti4 hle
   apply zbi
   ·rfl
   ·intro W hW
    obtain⟨h0,⟨h1,h2,h3,h4⟩,h5⟩:=hW
    first|(go_simp; done)|(go_simp; with_reducible rfl)
   simp only[Act.put,List.setIfInBounds_toArray,List.set_cons_zero,List.set_cons_succ]
   refine zdm (w':=w7.setCell ⟨ob,3,none⟩ (.slice (some ⟨g,0,none⟩) ((Co.rws p (ks.take i)).length+1) cap)) ?_ ?_ ?_ ?_
   ·rfl
   ·go_simp
   ·exact .inl (Nat.le_refl _)
   refine zcu ?_
   generalize World.setCell _ _ _=w8 at *
   clear o0 o1 o2 o3 fo
   go_wp2_with fail
   go_roundw
   case rel=>exact⟨i+1,_,by go_num,by omega,HNX⟩
   case measure=>simp only[intOf]; omega
  ·obtain rfl:i=ks.length:=by omega
   have g0:decide (ks.length<ks.length)=false:=by simp
   clear hik
   rw[List.take_length] at HJ
   have HF0:=hid' (show RwFit ok w ob #[.int .i64 op,.int .i64 n,.string s,.slice q ks.length c] p (Co.T.rw p (.mk op n s ks)) (.mk op n s (Co.rws p ks)) wr from by
    refine⟨HJ.out.box,⟨_,_,_,_,HJ.out.o,HJ.out.own.value HON.out.1 HON.out.2.1 HON.out.2.2⟩,?_,by rw[Co.T.rw]⟩
    have:(Co.T.mk op n s (Co.rws p ks)).letter=(Co.T.mk op n s ks).letter:=by
     refine Co.letter_congr ?_
     rw[Co.rws_map,List.map_map]
     exact List.map_congr_left fun k hk=>(Co.rw_spec p k (Co.kids_ne HX.out k hk)).2.letter
    rw[this]
    exact HX.out)
   obtain⟨F,hF⟩:∃ F,Hid (Co.T.rw p (.mk op n s ks)=F):=⟨_,hid' rfl⟩
   rw[hF.out] at HF0 ⊢
   go_wp2_with fail
   go_loopw [11] (fun _ wr=>Hid (∃ cur,RwFit ok w ob #[.int .i64 op,.int .i64 n,.string s,.slice q ks.length c] p F cur wr)) (fun _ wr=>zna fun m=>∃ cur,RwFit ok w ob #[.int .i64 op,.int .i64 n,.string s,.slice q ks.length c] p F cur wr∧Co.meas cur=m)
   case atStart=>exact hid' ⟨_,HF0.out⟩
   case round=>
    obtain⟨cur0,hcur0⟩:=hrel.out
    obtain⟨cur,hcur,hm⟩:=ztb (P:=fun m=>∃ cur,RwFit ok w ob #[.int .i64 op,.int .i64 n,.string s,.slice q ks.length c] p F cur wr∧Co.meas cur=m) ⟨cur0,hcur0,rfl⟩
    have HM:=hid' hm
    have HCU:=hid' hcur
    clear hrel hcur0 hcur hm cur0
    obtain⟨ox,oy,oz,ou,hob1,hco⟩:=HCU.out.o
    obtain⟨cop,cn,cst,cp,cl,cc,e, -, -, -,hcl⟩:=zbn hco
    obtain⟨rfl,rfl,rfl,rfl⟩:.int .i64 cop=ox∧.int .i64 cn=oy∧.string cst=oz∧.slice cp cl cc=ou:=by simpa using e.symm
    have HO:=hid' hob1
    have HCO:=hid' hco
    have HCL:=hid' hcl
    clear e hob1 hco hcl
    obtain⟨o0,o1,o2,o3⟩:=zab HO.out
    by_cases hz:cl=0
    ·subst hz
     have HFC:=hid' (show F=cur by
      rw[←HCU.out.f]
      exact Co.settle_stop (.inl (List.length_eq_zero_iff.1 HCL.out)))
     obtain⟨e0,e1,e2,e3⟩:=zab HCU.out.box.r
     have f0:∀ o,wr.frozen? ⟨w.heap.size+1+1,o,none⟩=false:=fun o=>Rw.frozen_of HCU.out.box.r
     have HS:=hid' (And.intro (set4 HCU.out.box.r (.int .i64 cop) (.int .i64 cn) (.string cst) (.slice cp 0 cc)) (zdx wr (w.heap.size+1+1) (.int .i64 cop) (.int .i64 cn) (.string cst) (.slice cp 0 cc)))
     go_wp2_with fail
     obtain⟨hbx,hbl⟩:=HS.out.1
     have hg:=HS.out.2
     generalize World.setCell _ _ _=w9 at *
     obtain⟨y0,y1,y2,y3⟩:=zab hbx
     refine bodyPost_ret (v:=.agg #[.int .i64 cop,.int .i64 cn,.string cst,.slice cp 0 cc]) (by simp[results,Tryz.results45,go_sem,y0,y1,y2,y3]) rfl ?_
     refine⟨HCU.out.box.below.trans (hbl w.heap.size (by omega)),_,rfl,?_⟩
     rw[hF.out,HFC.out]
     refine HCO.out.keep (fun b hb hl=>⟨hb.imp id (fun h=>by have:=HOB.out; omega),hg.block b hl (fun e=>?_)⟩)
     obtain rfl:w.heap.size+1+1=b:=by simpa using e.symm
     rcases hb with hb|hb
     ·have:=HOK.out _ hb; omega
     ·have:=HOB.out; omega
    ·have g1:decide ((0:Int)<(cl:Int))=true:=by simp; omega
     have g2:decide (0<cl)=true:=by simp; omega
     have g3:(0:Int)<(cl:Int):=by omega
     have g4:0<cl:=by omega
     have HZ:=hid' hz
     clear hz
     have hask:RuleAsk cur:=⟨HCU.out.x,by rw[HCL.out]; have:=HZ.out; omega⟩
     have HASK:=hid' hask
     have HFIRST:=hid' (zzv (fun b=>(ok b∨ob+1≤b)∧b<wr.heap.size) cur _ rb (w.heap.size+1) p wr (fun b h=>h.2) HCO.out.lt hask HP.out (by simp[World.cell?,HCU.out.box.p]) ((HCU.out.box.below.block rb (zac HRL.out)).trans HRL.out))
     clear hask
     obtain⟨bo,hbo⟩:∃ bo,Hid ((Co.fit p cur).isSome=bo):=⟨_,hid' rfl⟩
     go_wp2_with fail
     refine HFIRST.out.mono ?_
     rintro e w5 ⟨b5,u,vv,rfl,hu,hux⟩
     rw[hbo.out]
     obtain⟨uop,un,us,up,ul,uc,rfl, -, -, -, -⟩:=zbn hu
     have HU:=hid' (show CoreIn (fun b=>ok b∨ob+1≤b) w5 u _ from hu.wk fun b hb=>hb.elim (fun h=>h.1) (fun h=>.inr (by have:=zac HO.out; omega)))
     have HUX:=hid' hux
     have HB5:=hid' b5
     have HCO5:=hid' (HCO.out.under b5)
     have HBX5:=hid' (HCU.out.box.more b5)
     have HO5:=hid' ((b5.block _ (zac HO.out)).trans HO.out)
     clear b5 hu hux o0 o1 o2 o3
     have hba:=(Below.refl w5.heap.size w5).alloc (Nat.le_refl _) (.cells #[.int .i64 uop,.int .i64 un,.string us,.slice up ul uc] 24)
     have HN6:=hid' (heap_alloc_new w5 (.cells #[.int .i64 uop,.int .i64 un,.string us,.slice up ul uc] 24))
     have HU6:=hid' (HU.out.under hba)
     have HCO6:=hid' (HCO5.out.under hba)
     have HBX6:=hid' (HBX5.out.more hba)
     have HO6:=hid' ((hba.block _ (zac HO5.out)).trans HO5.out)
     have HB56:=hid' hba
     obtain⟨o0,o1,o2,o3⟩:=zab HO6.out
     obtain⟨n0,n1',n2',n3⟩:=zab HN6.out
     obtain⟨e0,e1,e2,e3⟩:=zab HBX6.out.r
     have f0:∀ o,(w5.alloc (.cells #[.int .i64 uop,.int .i64 un,.string us,.slice up ul uc] 24)).frozen? ⟨w.heap.size+1+1,o,none⟩=false:=fun o=>Rw.frozen_of HBX6.out.r
     have fo:∀ o,(w5.alloc (.cells #[.int .i64 uop,.int .i64 un,.string us,.slice up ul uc] 24)).frozen? ⟨ob,o,none⟩=false:=fun o=>Rw.frozen_of HO6.out
     clear hba
     cases bo with
     |false=>
      have HFC:=hid' (show F=cur by
       rw[←HCU.out.f]
       exact Co.settle_stop (.inr (by simpa using hbo.out)))
      have HS:=hid' (And.intro (set4 HBX6.out.r (.int .i64 cop) (.int .i64 cn) (.string cst) (.slice cp cl cc)) (zdx (w5.alloc (.cells #[.int .i64 uop,.int .i64 un,.string us,.slice up ul uc] 24)) (w.heap.size+1+1) (.int .i64 cop) (.int .i64 cn) (.string cst) (.slice cp cl cc)))
      go_wp2_with fail
      obtain⟨hbx,hbl⟩:=HS.out.1
      have hg:=HS.out.2
      generalize World.setCell _ _ _=w9 at *
      obtain⟨y0,y1,y2,y3⟩:=zab hbx
      refine bodyPost_ret (v:=.agg #[.int .i64 cop,.int .i64 cn,.string cst,.slice cp cl cc]) (by simp[results,Tryz.results45,go_sem,y0,y1,y2,y3]) rfl ?_
      refine⟨HBX6.out.below.trans (hbl w.heap.size (by omega)),_,rfl,?_⟩
      rw[hF.out,HFC.out]
      refine HCO6.out.keep (fun b hb hl=>⟨hb.imp id (fun h=>by have:=HOB.out; omega),hg.block b hl (fun e=>?_)⟩)
      obtain rfl:w.heap.size+1+1=b:=by simpa using e.symm
      rcases hb with hb|hb
      ·have:=HOK.out _ hb; omega
      ·have:=HOB.out; omega
     |true=>
      obtain⟨x,hx⟩:∃ x,Co.fit p cur=some x:=Option.isSome_iff_exists.1 hbo.out
      obtain rfl:u=x:=HUX.out x hx
      have HNX:=hid' (show RwFit ok w ob #[.int .i64 op,.int .i64 n,.string s,.slice q ks.length c] p F u (((((w5.alloc (.cells #[.int .i64 uop,.int .i64 un,.string us,.slice up ul uc] 24)).setCell ⟨ob,0,none⟩ (.int .i64 uop)).setCell ⟨ob,1,none⟩ (.int .i64 un)).setCell ⟨ob,2,none⟩ (.string us)).setCell ⟨ob,3,none⟩ (.slice up ul uc)) from by
       have h1:=HOB.out
       have hs:=set4 HO6.out (.int .i64 uop) (.int .i64 un) (.string us) (.slice up ul uc)
       have hg:=zdx (w5.alloc (.cells #[.int .i64 uop,.int .i64 un,.string us,.slice up ul uc] 24)) ob (.int .i64 uop) (.int .i64 un) (.string us) (.slice up ul uc)
       have hst:=Co.fit_step hx HCU.out.x
       refine⟨HBX6.out.keep (HBX6.out.below.trans (hs.2 _ (by omega))) (fun b h2 h3=>hg.block b (by have:=zac HO6.out; omega) (fun e=>by cases e; omega)),⟨_,_,_,_,hs.1,HU6.out.keep (fun b hb hl=>⟨hb,hg.block b hl (fun e=>?_)⟩)⟩,by rw[hst.letter]; exact HCU.out.x,?_⟩
       ·obtain rfl:ob=b:=by simpa using e.symm
        rcases hb with hb|hb
        ·have:=HOK.out _ hb; omega
        ·omega
       ·rw[←HCU.out.f]
        exact(Co.settle_go HCU.out.x (fun h=>by have:=HASK.out.some'; rw[h] at this; cases this) hx).symm)
      have HLT:=hid' (show Co.meas u<Co.meas cur from(Co.fit_step hx HCU.out.x).meas)
      clear hx
      go_wp2_with fail
      generalize World.setCell _ _ _=w8 at *
      go_roundw
      case rel=>exact hid' ⟨u,HNX.out⟩
      case measure=>
       rw[←HM.out]
       exact Nat.lt_of_le_of_lt (zta ⟨u,HNX.out,rfl⟩) HLT.out
end
section
open Go.RowKit
set_option maxRecDepth 100000
namespace Co
theorem qde (y:UInt8):(Lib.indexByte [110,98,100,63,99] y == 4)=(y == 99):=by
 have e:∀(b:UInt8) (l:List UInt8),Lib.indexByte (b::l) y=if(b == y)=true then 0 else if(Lib.indexByte l y == -1)=true then -1 else Lib.indexByte l y+1:=fun b l=>rfl
 have e0:Lib.indexByte [] y = -1:=rfl
 rw[e,e,e,e,e,e0]
 by_cases h1:y=110
 ·subst h1; decide
 by_cases h2:y=98
 ·subst h2; decide
 by_cases h3:y=100
 ·subst h3; decide
 by_cases h4:y=63
 ·subst h4; decide
 by_cases h5:y=99
 ·subst h5; decide
 have f:∀ b:UInt8,y≠b→(b == y)=false:=fun b h=>by simpa using fun e=>h e.symm
 rw[f 110 h1,f 98 h2,f 100 h3,f 63 h4,f 99 h5]
 have:(y == 99)=false:=by simpa using h5
 rw[this]
 rfl
theorem check_good (t:T):t.check=0↔t.good:=by
 unfold T.check T.good T.ty
 cases hr:t.right with
 |false=>
  simp only[Bool.false_and,cond_false]
  constructor
  ·intro h; cases h
  ·rintro⟨h1,h2,h3⟩
   unfold T.right at hr
   rw[h1,h2] at hr
   cases hr
 |true=>
  have hs:small t=true:=by unfold T.right at hr; rw[Bool.and_eq_true] at hr; exact hr.1
  simp only[Bool.true_and,cond_true,qde]
  cases hy:(t.letter == 99) with
  |false=>
   simp only[cond_false]
   constructor
   ·intro h; cases h
   ·rintro⟨h1,h2,h3⟩
    rw[h2] at hy
    cases hy
  |true=>
   cases ha:t.ahead with
   |true=>simp
   |false=>simp[hs]; simpa using hy
def fits (t:T)(p:Int):Bool:=t.check == 0 && (decide (0≤p) && decide (p≤15))
def opt (t:T)(p:Int):T:=bif fits t p then t.rw p else leaf 0 0
def optE (t:T)(p:Int):Int:=bif fits t p then 0 else 160
end Co
def qef (ok:Nat→Prop)(t:Co.T)(p:Int)(w:World)(e:Ending)(w':World):Prop:=Below w.heap.size w w'∧∃ v,e=.returned (.tuple #[v,.int .i64 (Co.optE t p)])∧CoreIn (fun b=>ok b∨w.heap.size≤b) w' (Co.opt t p) v
set_option maxHeartbeats 4000000 in
theorem qfy (ok:Nat→Prop)(t:Co.T)(v:Value)(p:Int)(w:World)(hok:∀ b,ok b→b<w.heap.size)(hv:CoreIn ok w t v)(hsz:t.size≤2000000):
  Calls Tryz.prog 18 #[v,.int .i64 p] w (qef ok t p w):=by
 obtain⟨op,n,s,q,ln,c,rfl,hop,hn,hs,hln⟩:=zbn hv
 have HV:=hid' hv
 have HOK:=hid' hok
 have HCK:=hid' (fun (W:World) (hb:Below w.heap.size w W)=>zpl t _ W ((hv.under hb).at' (Nat.le_refl _)) hsz)
 have hx0:=((Below.refl _ w).alloc (Nat.le_refl _) (.cells #[.int .i64 op,.int .i64 n,.string s,.slice q ln c] 24))
 have hx1:=hx0.alloc (by simp) (.cells #[.int .i64 0,.int .i64 0,.string ⟨#[]⟩,.slice none 0 0] 24)
 have y0:=heap_alloc_new w (.cells #[.int .i64 op,.int .i64 n,.string s,.slice q ln c] 24)
 have y1:=heap_alloc_new (w.alloc (.cells #[.int .i64 op,.int .i64 n,.string s,.slice q ln c] 24)) (.cells #[.int .i64 0,.int .i64 0,.string ⟨#[]⟩,.slice none 0 0] 24)
 have z1:∀(W:World) (o:Obj) (k:Nat) (x:Obj),W.heap[k]? = some x→(W.alloc o).heap[k]? = some x:=fun W o k x h=>(((Below.refl W.heap.size W).alloc (Nat.le_refl _) o).block k (zac h)).trans h
 replace y0:=z1 _ (.cells #[.int .i64 0,.int .i64 0,.string ⟨#[]⟩,.slice none 0 0] 24) _ _ y0
 simp only[World.size_alloc] at y1
 obtain⟨ck,hck⟩:∃ ck,Hid (t.check=ck):=⟨_,hid' rfl⟩
 rw[hck.out] at HCK
 clear hx0 z1 hok hop hn hs hln hv
 go_enter Tryz.func18,Tryz.ntmps18
 go_upto_region 1 with(fail)
 generalize World.alloc _ _=w1 at *
 have HB:=hid' hx1
 have HC:=hid' y0
 have HR:=hid' y1
 obtain⟨c0,c1,c2,c3⟩:=zab y0
 clear hx1 y0 y1
 go_wp2_with fail
 refine(HCK.out _ HB.out).mono ?_
 rintro e w2 ⟨rfl,b2⟩
 have HB2:=hid' (Below.more HB.out b2)
 have HC2:=hid' ((b2.block _ (zac HC.out)).trans HC.out)
 have HR2:=hid' ((b2.block _ (zac HR.out)).trans HR.out)
 clear b2 c0 c1 c2 c3
 obtain⟨c0,c1,c2,c3⟩:=zab HC2.out
 obtain⟨r0,r1,r2,r3⟩:=zab HR2.out
 have f0:∀ o,w2.frozen? ⟨w.heap.size+1,o,none⟩=false:=fun o=>Rw.frozen_of HR2.out
 by_cases hfit:ck=0∧0≤p∧p≤15
 ·obtain⟨rfl,h1,h2⟩:=hfit
  have HF:=hid' (show Co.fits t p=true by unfold Co.fits; rw[hck.out]; simp[h1,h2])
  have HP:=hid' (And.intro h1 h2)
  have g1:decide (p<0)=false:=decide_eq_false (by omega)
  have g2:decide (15<p)=false:=decide_eq_false (by omega)
  clear h1 h2
  go_wp2_with fail
  clear c0 c1 c2 c3 r0 r1 r2 r3 f0
  refine zbu (fun W=>W.heap[w.heap.size]? = some (.cells #[.int .i64 op,.int .i64 n,.string s,.slice q ln c] 24 (0,0))∧W.heap[w.heap.size+1]? = some (.cells #[.int .i64 0,.int .i64 0,.string ⟨#[]⟩,.slice none 0 0] 24 (0,0))) 4 [false,false,true,true,true,true] (by kernel_rfl) (by kernel_rfl) (by kernel_rfl) ⟨HC2.out,HR2.out⟩ ?_
  iterate 2
   apply zbi
   ·rfl
   ·intro W hW
    obtain⟨d0,d1,d2,d3⟩:=zab hW.1
    first|(go_simp; done)|(go_simp; with_reducible rfl)
   simp only[Act.put,List.setIfInBounds_toArray,List.set_cons_zero,List.set_cons_succ]
  refine zdt 46 #[] (fun v w'=>v=.slice (some ⟨w2.drew.heap.size,0,none⟩) 7 7∧Below w2.drew.heap.size w2.drew w'∧znc w' w2.drew.heap.size) ?_ ?_ ?_ ?_
  ·rfl
  ·go_simp
  ·refine(zyg _).mono ?_
   rintro e w' ⟨h1,h2,h3⟩
   exact⟨_,h1,rfl,h2,h3⟩
  rintro v w3 ⟨rfl,b3,hr3⟩
  have b23:Below w2.heap.size w2 w3:=(Below.refl _ w2).drew.trans b3
  have HB3:=hid' (HB2.out.trans (b23.mono HB2.out.size))
  have HC3:=hid' ((b23.block _ (zac HC2.out)).trans HC2.out)
  have HR3:=hid' ((b23.block _ (zac HR2.out)).trans HR2.out)
  have HRL:=hid' hr3
  refine⟨.inr ⟨HC3.out,HR3.out⟩,?_⟩
  simp only[Act.put,List.setIfInBounds_toArray,List.set_cons_zero,List.set_cons_succ]
  clear b3 b23 hr3
  refine zdt 45 #[.agg #[.int .i64 op,.int .i64 n,.string s,.slice q ln c],.int .i64 p,.slice (some ⟨w2.drew.heap.size,0,none⟩) 7 7] (fun v w'=>Below w3.heap.size w3 w'∧CoreIn (fun b=>ok b∨w3.heap.size≤b) w' (t.rw p) v) ?_ ?_ ?_ ?_
  ·rfl
  ·go_simp
  ·refine(zul p HP.out t ok _ w2.drew.heap.size w3 (fun b h=>Nat.lt_of_lt_of_le (HOK.out b h) HB3.out.size) (HV.out.under HB3.out) (by have:=(Co.check_good t).1 hck.out; rw[this.2.1]; decide) HRL.out).mono ?_
   rintro e w' ⟨h1,v,h2,h3⟩
   exact⟨v,h2,h1,h3⟩
  rintro v w4 ⟨b4,hu⟩
  obtain⟨uop,un,us,up,ul,uc,rfl, -, -, -, -⟩:=zbn hu
  have HB4:=hid' (HB3.out.trans (b4.mono HB3.out.size))
  have HC4:=hid' ((b4.block _ (zac HC3.out)).trans HC3.out)
  have HR4:=hid' ((b4.block _ (zac HR3.out)).trans HR3.out)
  have HU:=hid' hu
  refine⟨.inr ⟨HC4.out,HR4.out⟩,?_⟩
  simp only[Act.put,List.setIfInBounds_toArray,List.set_cons_zero,List.set_cons_succ]
  clear b4 hu
  obtain⟨r0,r1,r2,r3⟩:=zab HR4.out
  have f0:∀ o,w4.frozen? ⟨w.heap.size+1,o,none⟩=false:=fun o=>Rw.frozen_of HR4.out
  have HS:=hid' (And.intro (set4 HR4.out (.int .i64 uop) (.int .i64 un) (.string us) (.slice up ul uc)) (zdx w4 (w.heap.size+1) (.int .i64 uop) (.int .i64 un) (.string us) (.slice up ul uc)))
  refine zdm (w':=((((w4.setCell ⟨w.heap.size+1,0,none⟩ (.int .i64 uop)).setCell ⟨w.heap.size+1,1,none⟩ (.int .i64 un)).setCell ⟨w.heap.size+1,2,none⟩ (.string us)).setCell ⟨w.heap.size+1,3,none⟩ (.slice up ul uc))) ?_ ?_ ?_ ?_
  ·rfl
  ·go_simp
  ·exact .inl (Nat.le_refl _)
  clear r0 r1 r2 r3 f0
  obtain⟨⟨hbx,hbl⟩,hg⟩:=HS.out
  generalize World.setCell _ _ _=w9 at *
  refine zbg (v:=.int .i64 0) (w':=w9) ?_ ?_ ?_ ?_
  ·rfl
  ·go_simp
  ·exact .inl (by decide)
  simp only[Act.put,List.setIfInBounds_toArray,List.set_cons_zero,List.set_cons_succ]
  refine zcu ?_
  have HBX:=hid' (And.intro hbx (And.intro hbl hg))
  clear hbx hbl hg
  go_wp2_with fail
  obtain⟨hbx,hbl,hg⟩:=HBX.out
  obtain⟨y0,y1,y2,y3⟩:=zab hbx
  refine bodyPost_ret (v:=.tuple #[.agg #[.int .i64 uop,.int .i64 un,.string us,.slice up ul uc],.int .i64 0]) (by simp[results,Tryz.results18,go_sem,y0,y1,y2,y3]) rfl ?_
  refine⟨HB4.out.trans (hbl w.heap.size (by omega)),_,by unfold Co.optE; rw[HF.out]; rfl,?_⟩
  unfold Co.opt
  rw[HF.out]
  refine HU.out.keep (fun b hb hl=>⟨hb.imp id (fun h=>Nat.le_trans HB3.out.size h),hg.block b hl (fun e=>?_)⟩)
  obtain rfl:w.heap.size+1=b:=by simpa using e.symm
  rcases hb with hb|hb
  ·have:=HOK.out _ hb; omega
  ·have:=zac HR3.out; omega
 ·have HF:=hid' (show Co.fits t p=false by
   unfold Co.fits
   rw[hck.out]
   rw[Bool.eq_false_iff]
   intro h
   simp only[Bool.and_eq_true,beq_iff_eq,decide_eq_true_eq] at h
   exact hfit h)
  have HS:=hid' (set4 HR2.out (.int .i64 0) (.int .i64 0) (.string ⟨#[]⟩) (.slice none 0 0))
  have hfin:∀ w9:World,w9.heap[w.heap.size+1]? = some (.cells #[.int .i64 0,.int .i64 0,.string ⟨#[]⟩,.slice none 0 0] 24 (0,0))→Below w.heap.size w w9→qef ok t p w (.returned (.tuple #[.agg #[.int .i64 0,.int .i64 0,.string ⟨#[]⟩,.slice none 0 0],.int .i64 160])) w9:=by
   intro w9 h9 hb
   refine⟨hb,_,by unfold Co.optE; rw[HF.out]; rfl,?_⟩
   unfold Co.opt
   rw[HF.out]
   exact zhg (by unfold I64; omega) (by unfold I64; omega)
  have HFIN:=hid' hfin
  clear hfin
  by_cases h0:ck=0
  ·subst h0
   by_cases h1:p<0
   ·have g1:decide (p<0)=true:=decide_eq_true h1
    clear h1 hfit
    go_wp2_with fail
    obtain⟨hbx,hbl⟩:=HS.out
    generalize World.setCell _ _ _=w9 at *
    obtain⟨y0,y1,y2,y3⟩:=zab hbx
    refine bodyPost_ret (v:=.tuple #[.agg #[.int .i64 0,.int .i64 0,.string ⟨#[]⟩,.slice none 0 0],.int .i64 160]) (by simp[results,Tryz.results18,go_sem,y0,y1,y2,y3]) rfl ?_
    exact HFIN.out w9 hbx (HB2.out.trans (hbl w.heap.size (by omega)))
   ·have g1:decide (p<0)=false:=decide_eq_false h1
    have g2:decide (15<p)=true:=decide_eq_true (by omega)
    clear h1 hfit
    go_wp2_with fail
    obtain⟨hbx,hbl⟩:=HS.out
    generalize World.setCell _ _ _=w9 at *
    obtain⟨y0,y1,y2,y3⟩:=zab hbx
    refine bodyPost_ret (v:=.tuple #[.agg #[.int .i64 0,.int .i64 0,.string ⟨#[]⟩,.slice none 0 0],.int .i64 160]) (by simp[results,Tryz.results18,go_sem,y0,y1,y2,y3]) rfl ?_
    exact HFIN.out w9 hbx (HB2.out.trans (hbl w.heap.size (by omega)))
  ·have g0:(ck != 0)=true:=by simpa using h0
   clear h0 hfit
   go_wp2_with fail
   obtain⟨hbx,hbl⟩:=HS.out
   generalize World.setCell _ _ _=w9 at *
   obtain⟨y0,y1,y2,y3⟩:=zab hbx
   refine bodyPost_ret (v:=.tuple #[.agg #[.int .i64 0,.int .i64 0,.string ⟨#[]⟩,.slice none 0 0],.int .i64 160]) (by simp[results,Tryz.results18,go_sem,y0,y1,y2,y3]) rfl ?_
   exact HFIN.out w9 hbx (HB2.out.trans (hbl w.heap.size (by omega)))
end
end Go.Proofs.YtanlmbbalamgkaaGreatDoor
