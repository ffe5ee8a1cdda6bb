/- Proved: lemmas and contracts of the functions that the law reaches, part 23 of 36: GfMem, GfKeep, GfLay, GfSetW, OptIdle, OptNever, OptTry, OptFirst. Conditions: as each states. -/
import Derived.WideKeyEntry
import Derived.Deep.RegionHeld3
import Derived.Test.YtanlmbbalamgkaaGreatDoorVmi22
namespace Go.Proofs.YtanlmbbalamgkaaGreatDoor
set_option linter.unusedVariables false
set_option linter.unusedSimpArgs false
section
open Go.RowKit
open Rw
set_option maxRecDepth 100000
namespace Gf
def wt5 (x:Gen.Wt):List Value:=[.int .i64 x.entry,.int .i64 x.day,.string x.label,.int .i64 x.first,.int .i64 x.second]
def ix7 (x:Gen.Ix):List Value:=[.int .i64 x.op,.int .i64 x.a,.int .i64 x.b,.int .i64 x.c,.int .i64 x.n,.string x.s,.int .i64 x.to]
def zfv (base:Nat)(w:World)(v:Value)(L:List Gen.Wt):Prop:=w.ownsRow base 76 5 v L.length (L.flatMap wt5)
def zfq (base:Nat)(w:World)(v:Value)(L:List Gen.Ix):Prop:=w.ownsRow base 73 7 v L.length (L.flatMap ix7)
theorem zzi:(Tryz.prog.info? 76).map (fun i=>(i.zero,i.size,i.bytes))=some (some (.agg #[.int .i64 0,.int .i64 0,.string ⟨#[]⟩,.int .i64 0,.int .i64 0]),5,48):=by kernel_rfl
theorem zxc:(Tryz.prog.info? 73).map (fun i=>(i.zero,i.size,i.bytes))=some (some (.agg #[.int .i64 0,.int .i64 0,.int .i64 0,.int .i64 0,.int .i64 0,.string ⟨#[]⟩,.int .i64 0]),7,64):=by kernel_rfl
theorem zti:(Tryz.prog.info? 104).map (fun i=>(i.zero,i.size,i.bytes))=some (some (.agg #[.int .i64 0,.int .i64 0,.int .i64 0,.string ⟨#[]⟩,.slice none 0 0]),5,64):=by kernel_rfl
theorem znb:(Tryz.prog.info? 1).map (fun i=>(i.zero,i.size,i.bytes))=some (some .nilFunc,1,8):=by kernel_rfl
structure Jb where
 j:Nat
 t:Co.T
 p:Option Addr
 c:Nat
def Jb.v (x:Jb):Value:=.agg #[.int .i64 x.t.op,.int .i64 x.t.n,.string x.t.s,.slice x.p x.t.ks.length x.c]
def jb5 (x:Jb):List Value:=[.int .i64 x.j,.int .i64 x.t.op,.int .i64 x.t.n,.string x.t.s,.slice x.p x.t.ks.length x.c]
def JbRow (base B:Nat)(w:World)(v:Value)(L:List (Nat × Co.T)):Prop:=∃ J:List Jb,L=J.map (fun x=>(x.j,x.t))∧zcr w base 104 5 v J.length (J.flatMap jb5)∧∀ x∈J,CoreAt B w x.t x.v
theorem zvw {W:World}{base:Nat}{e:TypeId}{s n:Nat}{v:Value}{xs:List Value}(h:W.ownsRow base e s v n xs){g:Nat}(hg:v.ownBlock=some g)(j:Nat)(hj:j<xs.length)(u:Value):
  (W.setCell ⟨g,j,none⟩ u).ownsRow base e s v n (xs.set j u):=by
 refine⟨by rw[List.length_set]; exact h.1,?_⟩
 rcases h.2 with⟨rfl,_⟩|⟨g',cap,cur,rfl,hb,hh,h1,h2,h3,h4⟩
 ·cases hg
 ·obtain rfl:g'=g:=Option.some.inj hg
  refine .inr ⟨g',cap,cur.setIfInBounds j u,rfl,hb,heap_setCell_same W g' j _ _ u hh,h1,h2,by rw[Array.size_setIfInBounds]; exact h3,?_⟩
  rw[Array.toList_setIfInBounds,List.take_set,h4]
theorem zoa {α:Type}(f:α→List Value)(g:α→α)(m j:Nat)(u:Value)(hm:∀ x,(f x).length=m)(hj:j<m)(hu:∀ x,f (g x)=(f x).set j u):
  ∀(L:List α) (i:Nat),i<L.length→(L.modify i g).flatMap f=(L.flatMap f).set (i * m+j) u
 | [],_,h=>by cases h
 |x::r,0,_=>by
  rw[List.modify_zero_cons,List.flatMap_cons,List.flatMap_cons,hu,Nat.zero_mul,Nat.zero_add,List.set_append_left _ _ (by rw[hm]; exact hj)]
 |x::r,i+1,h=>by
  have ih:=zoa f g m j u hm hj hu r i (by simpa using h)
  rw[List.modify_succ_cons,List.flatMap_cons,List.flatMap_cons,ih,show(i+1) * m+j=(f x).length+(i * m+j) by rw[hm,Nat.add_mul]; omega,List.set_append_right _ _ (by omega),Nat.add_sub_cancel_left]
theorem zlv {W:World}{base:Nat}{e:TypeId}{s n:Nat}{v:Value}{xs:List Value}(h:W.ownsRow base e s v n xs)(hn:0<n):∃ g c,v=.slice (some ⟨g,0,none⟩) n c∧v.ownBlock=some g∧base≤g∧n≤c∧∀ j u,xs[j]? = some u→W.cell? ⟨g,j,none⟩=some u:=by
 rcases h.2 with⟨_,h0⟩|⟨g,cap,cur,rfl,hb,hh,h1,h2,h3,h4⟩
 ·omega
 ·refine⟨g,cap,rfl,rfl,hb,h1,fun j u hu=>?_⟩
  have:=World.ownsRow.cells h (g:=g) rfl j u hu
  rwa [add_gen,Nat.zero_add] at this
theorem zos {W:World}{base:Nat}{e:TypeId}{s n:Nat}{v:Value}{xs:List Value}(h:W.ownsRow base e s v n xs){g:Nat}(hg:v.ownBlock=some g)(o:Nat):W.frozen? ⟨g,o,none⟩=false:=by
 rcases h.2 with⟨rfl,_⟩|⟨g',cap,cur,rfl,hb,hh,_⟩
 ·cases hg
 ·obtain rfl:g'=g:=Option.some.inj hg
  exact frozen_of hh
theorem zbz {W:World}{base z n:Nat}{t:TypeId}{v:Value}{xs:List Value}(h:W.ownsRow base t z v n xs){k:Nat}(hk:v.ownBlock=some k):base≤k∧∃ cur,W.heap[k]? = some (.cells cur t (0,0)):=by
 rcases h.2 with⟨rfl,_⟩|⟨g,cap,cur,rfl,hb,hc,_⟩
 ·cases hk
 ·obtain rfl:g=k:=Option.some.inj hk
  exact⟨hb,cur,hc⟩
theorem zhi {W:World}{base z n:Nat}{t:TypeId}{v:Value}{xs:List Value}(h:zcr W base t z v n xs){k:Nat}(hk:v.ownBlock=some k):base≤k∧∃ cur,W.heap[k]? = some (.cells cur t (0,0)):=by
 rcases h.2 with⟨rfl,_⟩|⟨g,o,cap,cur,rfl,hb,hc,_⟩
 ·cases hk
 ·obtain rfl:g=k:=Option.some.inj hk
  exact⟨hb,cur,hc⟩
/-! What is known. -/
def valV (v:Val):Value:=.agg #[.int .i64 v.op,.int .i64 v.n,.string v.s,.int .i64 v.b,.int .i64 v.c]
structure ValOk (v:Val):Prop where
 op:I64 v.op
 n:I64 v.n
 s:v.s.size≤maxLen
 b:I64 v.b
 c:I64 v.c
theorem qcu:laidOutB Tryz.prog=true:=by kernel_rfl
theorem qfm:(171:TypeId)<Tryz.prog.types.size:=of_decide_eq_true (by kernel_rfl)
theorem qeh:(match Tryz.prog.underlying 171 with|some (.array _ _)|some (.struct _)=>true|_=>false)=true:=by kernel_rfl
theorem qft:WideMaps.KeyLaw Tryz.prog 171:=deep_law_laid qcu (m:=6) (by omega) qfm (by kernel_rfl) qeh
theorem keysVal:Maps.Keyed Tryz.prog 171:=Maps.Keyed.of_law qft
noncomputable def valK (v:Val):Lit:=(keyOf Tryz.prog 171 (valV v)).getD (.string [])
theorem wf64 {n:Int}(h:I64 n):(Lit.int .i64 n).wf=true:=by
 unfold I64 at h
 simp[Lit.wf,IntKind.min,IntKind.max,IntKind.signed,IntKind.bits]
 omega
theorem zuz (d:Nat)(s:ByteArray)(hs:s.size≤maxLen):Tryz.prog.keyLits (d+1) 9 [.string s]=some [.string s.data.toList]:=by
 unfold Program.keyLits
 rw[Tryz.underlying9]
 simp only[]
 rw[if_pos hs]
theorem zjm (d:Nat)(n:Int)(h:I64 n):Tryz.prog.keyLits (d+1) 3 [.int .i64 n]=some [.int .i64 n]:=by
 unfold Program.keyLits
 rw[Tryz.underlying3]
 simp only[]
 rw[if_pos ⟨by first|rfl|trivial,wf64 h⟩]
theorem zrs (d:Nat)(n:Int)(h:I64 n):Tryz.prog.keyLits (d+1) 2 [.int .i64 n]=some [.int .i64 n]:=by
 unfold Program.keyLits
 rw[Tryz.underlying2]
 simp only[]
 rw[if_pos ⟨by first|rfl|trivial,wf64 h⟩]
theorem ztw:Tryz.prog.cellsOf 171=5:=by kernel_rfl
theorem znp:Tryz.prog.cellsOf 9=1:=by kernel_rfl
theorem ztx:Tryz.prog.cellsOf 3=1:=by kernel_rfl
theorem zpm:Tryz.prog.cellsOf 2=1:=by kernel_rfl
theorem zxw:0<Tryz.prog.types.size:=of_decide_eq_true (by kernel_rfl)
theorem zuy (d:Nat)(v:Val)(h:ValOk v)(hd:0<d):Tryz.prog.keyLits (d+1) 171 (valV v).cells.toList=some [.int .i64 v.op,.int .i64 v.n,.string v.s.data.toList,.int .i64 v.b,.int .i64 v.c]:=by
 obtain⟨d,rfl⟩:∃ e,d=e+1:=⟨d - 1,by omega⟩
 have e:(valV v).cells.toList=[.int .i64 v.op,.int .i64 v.n,.string v.s,.int .i64 v.b,.int .i64 v.c]:=rfl
 rw[e]
 unfold Program.keyLits
 rw[Tryz.underlying171]
 simp only[ztw,znp,ztx,zpm]
 rw[if_pos (by exact⟨rfl,by decide +kernel⟩)]
 simp[znp,ztx,zpm,zuz _ _ h.s,zjm _ _ h.op,zrs _ _ h.n,zjm _ _ h.b,zjm _ _ h.c]
theorem zjx {v:Val}(h:ValOk v):keyOf Tryz.prog 171 (valV v)=some (valK v):=by
 unfold valK
 have h1:Tryz.prog.keyType 171=true:=by kernel_rfl
 have h2:Value.formed Tryz.prog 171 (valV v)=true:=by
  simp[Value.formed,valV,Tryz.underlying171,ztw]
 have h3:=zuy _ v h zxw
 simp only[keyOf,Tryz.underlying171]
 rw[if_pos (by rw[h1,h2]; rfl),h3]
 rfl
theorem qbl {v v':Val}(h:ValOk v)(h':ValOk v')(e:valK v=valK v'):v=v':=by
 have h1:=zjx h
 have h2:=zjx h'
 rw[←e] at h2
 have:=keysVal.inj h1 h2
 simp[valV] at this
 cases v; cases v'
 simp_all
theorem zvp {v:Val}(h:ValOk v):WideAt.IsKeyLit (valK v):=keysVal.key (zjx h)
def knM (W:World)(b n:Nat)(D:DataW Unit):Prop:=W.ownsMap Tryz.prog 171 (plainElem Tryz.prog 3) b n D
def qgd (D:DataW Unit)(k:Val→Option Int):Prop:=∀ v,ValOk v→Maps.has D (valK v)=(k v).isSome∧∀ r,k v=some r→D.atKey (valK v) (.lit (.int .i64 0))=.lit (.int .i64 r)
def Kn (W:World)(b n:Nat)(k:Val→Option Int):Prop:=∃ D,knM W b n D∧qgd D k
theorem Kn.lt {W:World}{b n:Nat}{k:Val→Option Int}(h:Kn W b n k):b<W.heap.size:=by
 obtain⟨D,h,_⟩:=h
 exact h.lt
theorem Kn.kept {W W':World}{b n:Nat}{k:Val→Option Int}{row:Option Nat}(h:Kn W b n k)(g:W.grownBy W' row)(hne:some b≠row):Kn W' b n k:=by
 obtain⟨D,h,hs⟩:=h
 exact⟨D,h.kept g hne,hs⟩
theorem Kn.same {W W':World}{b n:Nat}{k:Val→Option Int}(h:Kn W b n k)(e:W'.heap[b]? = W.heap[b]?):Kn W' b n k:=by
 obtain⟨D,⟨es,clock,hb,F,hs,hD⟩,hk⟩:=h
 exact⟨D,⟨es,clock,e.trans hb,F,hs,hD⟩,hk⟩
theorem Kn.made (w:World):Kn (w.alloc (.map #[] 0)) w.heap.size 0 zhf:=
 ⟨.map [],World.ownsMap_made w _ _ _,fun v hv=>⟨rfl,fun r h=>by cases h⟩⟩
theorem Kn.look {W:World}{b n:Nat}{k:Val→Option Int}(h:Kn W b n k){v:Val}(hv:ValOk v):
  (Instr.lookup 64 (.map (some b)) (valV v) true).run Tryz.prog W=.ok (.tuple #[.int .i64 ((k v).getD 0),.bool (k v).isSome]) W:=by
 obtain⟨D,h,hs⟩:=h
 obtain⟨u,ps,hrun,hu⟩:=h.look_ok keysVal Tryz.underlying64 (z:=.int .i64 0) (zd:=.lit (.int .i64 0)) (zp:=[]) (by kernel_rfl) (plainElem_int Tryz.underlying3 (by decide)) (zjx hv)
 obtain⟨c,rfl,hc, -⟩:=plainElem_int_inv Tryz.underlying3 hu
 have hc':=congrArg Prod.fst hc
 simp only at hc'
 obtain⟨h1,h2⟩:=hs v hv
 rw[hrun,h1]
 cases hk:k v with
 |none=>
  rw[hk] at h1
  rw[Maps.atKey_of_not_has h1] at hc'
  cases hc'
  rfl
 |some r=>
  rw[h2 r hk] at hc'
  cases hc'
  rfl
open Classical in
theorem Kn.put {W:World}{b n:Nat}{m:Mk}(h:Kn W b n m.known)(hn:n<maxLen){v:Val}(hv:ValOk v){r:Int}(hr:I64 r):
  ∃ w',(Instr.mapUpdate 64 (.map (some b)) (valV v) (.int .i64 r)).run Tryz.prog W=.ok () w'∧Kn w' b (n+1) (m.put v r).known∧W.grownBy w' (some b):=by
 obtain⟨D,h,hs⟩:=h
 obtain⟨w',h1,h2,h3⟩:=h.update keysVal Tryz.underlying64 hn (zjx hv) (plainElem_int Tryz.underlying3 (wf64 hr))
 refine⟨w',h1,⟨_,h2,fun x hx=>?_⟩,h3⟩
 show _=(if x=v then some r else m.known x).isSome∧∀ r',(if x=v then some r else m.known x)=some r'→_
 by_cases e:x=v
 ·subst e
  rw[if_pos rfl]
  refine⟨Maps.has_put_same h.isMap (zvp hx) _,fun r' e=>?_⟩
  cases e
  exact Maps.atKey_put_same h.isMap (zvp hx) _ _
 ·rw[if_neg e]
  have hne:valK x≠valK v:=fun e2=>e (qbl hx hv e2)
  rw[Maps.has_put_other hne,Maps.atKey_put_other hne]
  exact hs x hx
/-! The maker. -/
structure MkAt (mb:Nat)(sh:Bool)(m:Mk)(vw vi vj:Value)(kb:Nat)(W:World):Prop where
 box:W.heap[mb]? = some (.cells #[.int .i64 m.regs,vw,vi,.bool sh,vj,.int .i64 m.next,.map (some kb),.bool m.over] 66 (0,0))
 rw:zfv (mb+1) W vw m.ws
 ri:zfq (mb+1) W vi m.ins
 rj:JbRow (mb+1) mb W vj m.jobs
 kn:∃ n,n≤m.puts∧Kn W kb n m.known
 kb:mb<kb
def zsb (i:Nat)(cs:Array Value)(k:Nat):Prop:=∀ v,cs[i]? = some v→v.ownBlock≠some k
def zuf (i:Nat)(t:TypeId):Prop:=(i=4∧t=104)∨(i=1∧t=76)
structure KpG (mb kb:Nat)(ub:Option Nat)(W W':World):Prop where
 bel:Below mb W W'
 cel:∀(k:Nat) (cur:Array Value) (t:TypeId),k≠mb→(∀ u,ub=some u→k≠u∧t≠1)→t≠73→t≠76→t≠104→W.heap[k]? = some (.cells cur t (0,0))→W'.heap[k]? = W.heap[k]?
 map:∀(k:Nat) (es:Array MapEntry) (c:Nat),k≠kb→W.heap[k]? = some (.map es c)→W'.heap[k]? = W.heap[k]?
 own:∀(i:Nat) (t:TypeId),zuf i t→∀(k:Nat) (cur cs:Array Value),W.heap[mb]? = some (.cells cs 66 (0,0))→zsb i cs k→W.heap[k]? = some (.cells cur t (0,0)) →
  W'.heap[k]? = W.heap[k]? ∧ ∃ cs',W'.heap[mb]? = some (.cells cs' 66 (0,0))∧zsb i cs' k
theorem KpG.refl (mb kb:Nat)(ub:Option Nat)(W:World):KpG mb kb ub W W:=⟨Below.refl _ _,fun _ _ _ _ _ _ _ _ _=>rfl,fun _ _ _ _ _=>rfl,fun i t _ k cur cs h1 h2 _=>⟨rfl,cs,h1,h2⟩⟩
theorem KpG.trans {mb kb kb':Nat}{ub:Option Nat}{A B C:World}(h:KpG mb kb ub A B)(k:KpG mb kb' ub B C)(hk:kb'=kb∨A.heap.size≤kb'):KpG mb kb ub A C:=by
 refine⟨h.bel.trans k.bel,fun j cur t h1 h2 h3 h4 h5 e=>?_,fun j es c h1 e=>?_,fun i t hi j cur cs h1 h2 e=>?_⟩
 ·have:=h.cel j cur t h1 h2 h3 h4 h5 e
  exact(k.cel j cur t h1 h2 h3 h4 h5 (this.trans e)).trans this
 ·have:=h.map j es c h1 e
  refine(k.map j es c (fun e2=>?_) (this.trans e)).trans this
  rcases hk with rfl|hk
  ·exact h1 e2
  ·have:=zac e
   omega
 ·obtain⟨e1,cs1,e2,e3⟩:=h.own i t hi j cur cs h1 h2 e
  obtain⟨e4,cs2,e5,e6⟩:=k.own i t hi j cur cs1 e2 e3 (e1.trans e)
  exact⟨e4.trans e1,cs2,e5,e6⟩
theorem KpG.of {mb kb:Nat}{ub:Option Nat}{W W':World}(h:Below W.heap.size W W')(hm:mb≤W.heap.size):KpG mb kb ub W W':=
 ⟨h.mono hm,fun k cur t _ _ _ _ _ e=>h.block k (zac e),fun k es c _ e=>h.block k (zac e),fun i t _ k cur cs h1 h2 e=>⟨h.block k (zac e),cs,(h.block mb (zac h1)).trans h1,h2⟩⟩
theorem KpG.wk {mb kb:Nat}{ub:Option Nat}{W W':World}(h:KpG mb kb none W W'):KpG mb kb ub W W':=
 ⟨h.bel,fun k cur t h1 _ h3 h4 h5 e=>h.cel k cur t h1 (fun u e=>by cases e) h3 h4 h5 e,h.map,h.own⟩
theorem KpG.box {mb kb:Nat}{ub:Option Nat}{W W':World}(h:KpG mb kb ub W W'){k:Nat}{cur:Array Value}{t:TypeId}(h1:k≠mb)(h2:∀ u,ub=some u→k≠u∧t≠1)(h3:t≠73)(h4:t≠76)(h5:t≠104)
  (e:W.heap[k]? = some (.cells cur t (0,0))):W'.heap[k]? = some (.cells cur t (0,0)):=(h.cel k cur t h1 h2 h3 h4 h5 e).trans e
theorem KpG.grow {mb kb:Nat}{ub:Option Nat}{W W':World}{row:Option Nat}(g:W.grownBy W' row){mcur:Array Value}(hmc:W.heap[mb]? = some (.cells mcur 66 (0,0)))
  (hr:∀ k,row=some k→(k=kb∧mb<kb∧∃ es c,W.heap[k]? = some (.map es c))∨(mb<k∧∃ cur t,W.heap[k]? = some (.cells cur t (0,0))∧((t=73∨(∃ i,zuf i t∧¬zsb i mcur k))∨∃ u,ub=some u∧((k=u∧t≠104∧t≠76)∨t=1)))):
  KpG mb kb ub W W':=by
 have hm:=zac hmc
 have hx:∀ k,k<W.heap.size→(∀ r,row=some r→k≠r)→W'.heap[k]? = W.heap[k]?:=fun k h1 h2=>g.block k h1 (fun e=>h2 k e.symm rfl)
 have hmm:W'.heap[mb]? = W.heap[mb]?:=hx mb hm fun r er e2=>by
  subst e2
  rcases hr mb er with⟨rfl,h,_⟩|⟨h,_⟩<;>omega
 refine⟨⟨g.os,g.tape,g.output,g.size,fun k hk=>hx k (Nat.lt_trans hk hm) fun r e e2=>?_⟩,fun k cur t h1 h2 h3 h4 h5 e=>hx k (zac e) fun r er e2=>?_,fun k es c h1 e=>hx k (zac e) fun r er e2=>?_,fun i t hi k cur cs h1 h2 e=>⟨hx k (zac e) fun r er e2=>?_,cs,hmm.trans h1,h2⟩⟩
 ·subst e2
  rcases hr k e with⟨rfl,h,_⟩|⟨h,_⟩<;>omega
 ·subst e2
  rcases hr k er with⟨rfl,_,es,c,e3⟩|⟨_,cur',t',e3,h6⟩
  ·rw[e] at e3; cases e3
  ·rw[e] at e3
   simp only[Option.some.injEq,Obj.cells.injEq] at e3
   obtain⟨-,rfl, -⟩:=e3
   rcases h6 with(rfl|⟨i,(⟨-,rfl⟩|⟨-,rfl⟩), -⟩)|⟨u,hu,h7⟩
   ·exact h3 rfl
   ·exact h5 rfl
   ·exact h4 rfl
   ·obtain⟨h8,h9⟩:=h2 u hu
    exact h7.elim (fun h=>h8 h.1) h9
 ·subst e2
  rcases hr k er with⟨rfl,_⟩|⟨_,cur',t',e3,_⟩
  ·exact h1 rfl
  ·rw[e] at e3; cases e3
 ·subst e2
  rcases hr k er with⟨rfl,_,es,c,e3⟩|⟨_,cur',t',e3,h6⟩
  ·rw[e] at e3; cases e3
  ·rw[e] at e3
   simp only[Option.some.injEq,Obj.cells.injEq] at e3
   obtain⟨-,rfl, -⟩:=e3
   rw[hmc] at h1
   simp only[Option.some.injEq,Obj.cells.injEq,and_true] at h1
   subst h1
   rcases h6 with(h|⟨j,hj,h⟩)|⟨u,hu,h|h⟩
   ·rcases hi with⟨-,rfl⟩|⟨-,rfl⟩<;>exact absurd h (by decide)
   ·have:j=i:=by
     rcases hi with⟨rfl,rfl⟩|⟨rfl,rfl⟩<;>rcases hj with⟨rfl,h9⟩|⟨rfl,h9⟩<;>first|rfl|exact absurd h9 (by decide)
    subst this
    exact h h2
   ·rcases hi with⟨-,rfl⟩|⟨-,rfl⟩
    ·exact h.2.1 rfl
    ·exact h.2.2 rfl
   ·rcases hi with⟨-,rfl⟩|⟨-,rfl⟩<;>exact absurd h (by decide)
end Gf
end
section
open Go.RowKit
open Rw
set_option maxRecDepth 100000
namespace Gf
section
variable {mb:Nat}{sh:Bool}{m m':Mk}{vw vi vj vw' vi' vj':Value}{kb kb':Nat}{W W':World}
theorem MkAt.lt (h:MkAt mb sh m vw vi vj kb W):mb<W.heap.size:=zac h.box
theorem JbRow.kept {base:Nat}{v:Value}{L:List (Nat × Co.T)}{row:Option Nat}(h:JbRow base mb W v L)(g:W.grownBy W' row)(hne:v.ownBlock=none∨v.ownBlock≠row)(hb:Below mb W W'):JbRow base mb W' v L:=by
 obtain⟨J,h1,h2,h3⟩:=h
 exact⟨J,h1,zlr h2 g hne,fun x hx=>(h3 x hx).kept hb (Nat.le_refl _)⟩
theorem zjs {base z n:Nat}{t:TypeId}{v:Value}{xs:List Value}(h:W.ownsRow base t z v n xs){k:Nat}{cur:Array Value}{t':TypeId}(e:W.heap[k]? = some (.cells cur t' (0,0)))(ht:t≠t'):v.ownBlock=none∨v.ownBlock≠some k:=by
 refine .inr fun e2=>?_
 obtain⟨-,cur2,e3⟩:=zbz h e2
 rw[e] at e3
 simp at e3
 exact ht e3.2.symm
theorem zmt {base z n:Nat}{t:TypeId}{v:Value}{xs:List Value}(h:zcr W base t z v n xs){k:Nat}{cur:Array Value}{t':TypeId}(e:W.heap[k]? = some (.cells cur t' (0,0)))(ht:t≠t'):v.ownBlock=none∨v.ownBlock≠some k:=by
 refine .inr fun e2=>?_
 obtain⟨-,cur2,e3⟩:=zhi h e2
 rw[e] at e3
 simp at e3
 exact ht e3.2.symm
theorem MkAt.below (h:MkAt mb sh m vw vi vj kb W)(b:Below W.heap.size W W'):MkAt mb sh m vw vi vj kb W':=by
 have hn:∀ v:Value,v.ownBlock=none∨v.ownBlock≠none:=fun v=>by cases hv:v.ownBlock<;>simp
 obtain⟨n,hn1,hn2⟩:=h.kn
 exact⟨zad b h.box,World.ownsRow.kept h.rw (grown_of_below b none) (hn vw),World.ownsRow.kept h.ri (grown_of_below b none) (hn vi),h.rj.kept (grown_of_below b none) (hn vj) (b.mono (Nat.le_of_lt h.lt)),⟨n,hn1,hn2.kept (grown_of_below b none) (by simp)⟩,h.kb⟩
theorem MkAt.other (h:MkAt mb sh m vw vi vj kb W){k:Nat}(g:W.grownBy W' (some k)){cur:Array Value}{t:TypeId}(e:W.heap[k]? = some (.cells cur t (0,0)))(h1:mb<k)(h2:t≠73)(h3:t≠76)(h4:t≠104):MkAt mb sh m vw vi vj kb W':=by
 have hb:Below mb W W':=⟨g.os,g.tape,g.output,g.size,fun j hj=>g.block j (Nat.lt_trans hj h.lt) (fun e=>by cases e; omega)⟩
 obtain⟨n,hn1,hn2⟩:=h.kn
 refine⟨box_grown g (by omega) h.box,World.ownsRow.kept h.rw g (zjs h.rw e (Ne.symm h3)),World.ownsRow.kept h.ri g (zjs h.ri e (Ne.symm h2)),?_,⟨n,hn1,hn2.kept g ?_⟩,h.kb⟩
 ·obtain⟨J,e1,e2,e3⟩:=h.rj
  exact JbRow.kept ⟨J,e1,e2,e3⟩ g (zmt e2 e (Ne.symm h4)) hb
 ·intro e2
  cases e2
  obtain⟨D,⟨es,clock,e3,_⟩,_⟩:=hn2
  rw[e] at e3
  cases e3
theorem MkAt.reset {cs:Array Value}(o:Nat)(v:Value)(box:W.heap[mb]? = some (.cells cs 66 (0,0)))
  (hcs:cs.setIfInBounds o v=#[.int .i64 m'.regs,vw',vi',.bool sh,vj',.int .i64 m'.next,.map (some kb'),.bool m'.over])
  (rw:zfv (mb+1) W vw' m'.ws) (ri:zfq (mb+1) W vi' m'.ins) (rj:JbRow (mb+1) mb W vj' m'.jobs) (kn:∃ n,n≤m'.puts∧Kn W kb' n m'.known) (hk:mb<kb'):
  MkAt mb sh m' vw' vi' vj' kb' (W.setCell ⟨mb,o,none⟩ v):=by
 have g:=grown_set W mb o v
 obtain⟨n,hn1,hn2⟩:=kn
 refine⟨by rw[heap_setCell_same W mb o _ _ v box,hcs],World.ownsRow.kept rw g (.inr (zes rw (Nat.lt_succ_self _))),World.ownsRow.kept ri g (.inr (zes ri (Nat.lt_succ_self _))),?_,⟨n,hn1,hn2.kept g (fun e=>by cases e; omega)⟩,hk⟩
 obtain⟨J,e1,e2,e3⟩:=rj
 exact JbRow.kept ⟨J,e1,e2,e3⟩ g (.inr fun e=>by have:=(zmu e2 _ e).1; omega) ((Below.refl mb W).setCell (p:=⟨mb,o,none⟩) (Nat.le_refl _) v)
theorem zmh {cs:Array Value}{ub:Option Nat}(o:Nat)(v:Value)(box:W.heap[mb]? = some (.cells cs 66 (0,0)))(h4:∀ i,i=4∨i=1→(cs.setIfInBounds o v)[i]? = cs[i]?):KpG mb kb ub W (W.setCell ⟨mb,o,none⟩ v):=by
 have g:=grown_set W mb o v
 have hx:∀ k,k<W.heap.size→k≠mb→(W.setCell ⟨mb,o,none⟩ v).heap[k]? = W.heap[k]?:=fun k h1 h2=>g.block k h1 (fun e=>h2 (by cases e; rfl))
 refine⟨⟨g.os,g.tape,g.output,g.size,fun k hk=>hx k (Nat.lt_trans hk (zac box)) (by omega)⟩,fun k cur t h1 _ _ _ _ e=>hx k (zac e) h1,fun k es c _ e=>hx k (zac e) (fun e2=>by subst e2; rw[box] at e; cases e),fun i t hi k cur cs' h1 h2 e=>?_⟩
 refine⟨hx k (zac e) (fun e2=>by subst e2; rw[box] at e; simp at e; rcases hi with⟨-,rfl⟩|⟨-,rfl⟩<;>exact absurd e.2 (by decide)),_,heap_setCell_same W mb o _ _ v box,fun x hx=>?_⟩
 rw[h4 i (hi.imp (fun h=>h.1) (fun h=>h.1))] at hx
 rw[box] at h1
 simp only[Option.some.injEq,Obj.cells.injEq,and_true] at h1
 subst h1
 exact h2 x hx
theorem MkAt.ins (h:MkAt mb sh m vw vi vj kb W){v':Value}{L:List Gen.Ix}(row:zfq (mb+1) W' v' L)(g:W.grownBy W' vi.ownBlock):
  W'.heap[mb]? = some (.cells #[.int .i64 m.regs,vw,vi,.bool sh,vj,.int .i64 m.next,.map (some kb),.bool m.over] 66 (0,0))∧zfv (mb+1) W' vw m.ws∧JbRow (mb+1) mb W' vj m.jobs∧(∃ n,n≤m.puts∧Kn W' kb n m.known)∧KpG mb kb none W W':=by
 have hne:vi.ownBlock≠some mb:=zes h.ri (Nat.lt_succ_self _)
 have hb:Below mb W W':=⟨g.os,g.tape,g.output,g.size,fun j hj=>g.block j (Nat.lt_trans hj h.lt) (fun e=>zes h.ri (by omega) e.symm)⟩
 obtain⟨n,hn1,hn2⟩:=h.kn
 refine⟨(g.block mb h.lt (fun e=>hne e.symm)).trans h.box,World.ownsRow.kept h.rw g (zor h.rw h.ri (by decide)),?_,⟨n,hn1,hn2.kept g ?_⟩,KpG.grow g h.box fun k hk=>?_⟩
 ·obtain⟨J,e1,e2,e3⟩:=h.rj
  refine JbRow.kept ⟨J,e1,e2,e3⟩ g ?_ hb
  rcases hv:vi.ownBlock with _|k
  ·cases hj:vj.ownBlock<;>simp
  ·obtain⟨-,cur,e4⟩:=zbz h.ri hv
   exact zmt e2 e4 (by decide)
 ·intro e
  obtain⟨-,cur,e4⟩:=zbz h.ri e.symm
  obtain⟨D,⟨es,clock,e3,_⟩,_⟩:=hn2
  rw[e4] at e3
  cases e3
 ·obtain⟨h1,cur,e4⟩:=zbz h.ri hk
  exact .inr ⟨h1,cur,_,e4,.inl (.inl rfl)⟩
theorem MkAt.wts (h:MkAt mb sh m vw vi vj kb W){v':Value}{L:List Gen.Wt}(row:zfv (mb+1) W' v' L)(g:W.grownBy W' vw.ownBlock):
  W'.heap[mb]? = some (.cells #[.int .i64 m.regs,vw,vi,.bool sh,vj,.int .i64 m.next,.map (some kb),.bool m.over] 66 (0,0))∧zfq (mb+1) W' vi m.ins∧JbRow (mb+1) mb W' vj m.jobs∧(∃ n,n≤m.puts∧Kn W' kb n m.known)∧KpG mb kb none W W':=by
 have hne:vw.ownBlock≠some mb:=zes h.rw (Nat.lt_succ_self _)
 have hb:Below mb W W':=⟨g.os,g.tape,g.output,g.size,fun j hj=>g.block j (Nat.lt_trans hj h.lt) (fun e=>zes h.rw (by omega) e.symm)⟩
 obtain⟨n,hn1,hn2⟩:=h.kn
 refine⟨(g.block mb h.lt (fun e=>hne e.symm)).trans h.box,World.ownsRow.kept h.ri g (zor h.ri h.rw (by decide)),?_,⟨n,hn1,hn2.kept g ?_⟩,KpG.grow g h.box fun k hk=>?_⟩
 ·obtain⟨J,e1,e2,e3⟩:=h.rj
  refine JbRow.kept ⟨J,e1,e2,e3⟩ g ?_ hb
  rcases hv:vw.ownBlock with _|k
  ·cases hj:vj.ownBlock<;>simp
  ·obtain⟨-,cur,e4⟩:=zbz h.rw hv
   exact zmt e2 e4 (by decide)
 ·intro e
  obtain⟨-,cur,e4⟩:=zbz h.rw e.symm
  obtain⟨D,⟨es,clock,e3,_⟩,_⟩:=hn2
  rw[e4] at e3
  cases e3
 ·obtain⟨h1,cur,e4⟩:=zbz h.rw hk
  exact .inr ⟨h1,cur,_,e4,.inl (.inr ⟨1,.inr ⟨rfl,rfl⟩,fun hn=>hn vw rfl hk⟩)⟩
theorem MkAt.jbs (h:MkAt mb sh m vw vi vj kb W)(g:W.grownBy W' vj.ownBlock):
  W'.heap[mb]? = some (.cells #[.int .i64 m.regs,vw,vi,.bool sh,vj,.int .i64 m.next,.map (some kb),.bool m.over] 66 (0,0))∧zfq (mb+1) W' vi m.ins∧zfv (mb+1) W' vw m.ws∧(∃ n,n≤m.puts∧Kn W' kb n m.known)∧KpG mb kb none W W':=by
 obtain⟨J,q1,q2,q3⟩:=h.rj
 have hlo:∀ k,vj.ownBlock=some k→mb+1≤k:=fun k e=>(zmu q2 _ e).1
 obtain⟨n,hn1,hn2⟩:=h.kn
 have hap:∀(t:TypeId) (z n:Nat) (v:Value) (xs:List Value),W.ownsRow (mb+1) t z v n xs→t≠104→v.ownBlock=none∨v.ownBlock≠vj.ownBlock:=by
  intro t z n v xs hr ht
  rcases hv:vj.ownBlock with _|k
  ·cases hj:v.ownBlock<;>simp
  ·obtain⟨-,cur,e4⟩:=zhi q2 hv
   exact zjs hr e4 ht
 refine⟨(g.block mb h.lt (fun e=>by have:=hlo _ e.symm; omega)).trans h.box,World.ownsRow.kept h.ri g (hap _ _ _ _ _ h.ri (by decide)),World.ownsRow.kept h.rw g (hap _ _ _ _ _ h.rw (by decide)),⟨n,hn1,hn2.kept g ?_⟩,KpG.grow g h.box fun k hk=>?_⟩
 ·intro e
  obtain⟨-,cur,e4⟩:=zhi q2 e.symm
  obtain⟨D,⟨es,clock,e3,_⟩,_⟩:=hn2
  rw[e4] at e3
  cases e3
 ·obtain⟨h1,cur,e4⟩:=zhi q2 hk
  exact .inr ⟨h1,cur,_,e4,.inl (.inr ⟨4,.inl ⟨rfl,rfl⟩,fun hn=>hn vj rfl hk⟩)⟩
theorem MkAt.known (h:MkAt mb sh m vw vi vj kb W)(g:W.grownBy W' (some kb)){k:Val→Option Int}{n q:Nat}(hn:n≤q)(hk:Kn W' kb n k):MkAt mb sh { m with known:=k,puts:=q } vw vi vj kb W'∧KpG mb kb none W W':=by
 obtain⟨n', -,hn2⟩:=h.kn
 obtain⟨D,⟨es,clock,e3,_⟩,_⟩:=hn2
 have hb:Below mb W W':=⟨g.os,g.tape,g.output,g.size,fun j hj=>g.block j (Nat.lt_trans hj h.lt) (fun e=>by cases e; have:=h.kb; omega)⟩
 have hap:∀(t:TypeId) (z n:Nat) (v:Value) (xs:List Value),W.ownsRow (mb+1) t z v n xs→v.ownBlock=none∨v.ownBlock≠some kb:=by
  intro t z n v xs hr
  refine .inr fun e=>?_
  obtain⟨-,cur,e4⟩:=zbz hr e
  rw[e3] at e4
  cases e4
 refine⟨⟨box_grown g (by have:=h.kb; omega) h.box,World.ownsRow.kept h.rw g (hap _ _ _ _ _ h.rw),World.ownsRow.kept h.ri g (hap _ _ _ _ _ h.ri),?_,⟨n,hn,hk⟩,h.kb⟩,KpG.grow g h.box fun k hk=>?_⟩
 ·obtain⟨J,e1,e2,e4⟩:=h.rj
  refine JbRow.kept ⟨J,e1,e2,e4⟩ g (.inr fun e=>?_) hb
  obtain⟨-,cur,e5⟩:=zhi e2 e
  rw[e3] at e5
  cases e5
 ·cases hk
  exact .inl ⟨rfl,h.kb,es,clock,e3⟩
theorem zwa {ub:Option Nat}{cs:Array Value}{v v':Value}(o:Nat)(ho:o=4∨o=1)(k5:KpG mb kb ub W W')(b0:W.heap[mb]? = some (.cells cs 66 (0,0)))(b1:W'.heap[mb]? = some (.cells cs 66 (0,0)))(hc:cs.size=8)(hcv:cs[o]? = some v)
  (hv:∀ k,v'.ownBlock=some k→v.ownBlock=some k∨W.heap.size≤k):KpG mb kb ub W (W'.setCell ⟨mb,o,none⟩ v'):=by
 have gs:=grown_set W' mb o v'
 have hx:∀ k,k<W'.heap.size→k≠mb→(W'.setCell ⟨mb,o,none⟩ v').heap[k]? = W'.heap[k]?:=fun k h1 h2=>gs.block k h1 (fun e=>h2 (by cases e; rfl))
 have hbl:Below mb W' (W'.setCell ⟨mb,o,none⟩ v'):=(Below.refl mb W').setCell (p:=⟨mb,o,none⟩) (Nat.le_refl _) v'
 refine⟨k5.bel.trans hbl,fun k cur t h1 h2 h3 h4 h5 e=>?_,fun k es c h1 e=>?_,fun i t hi k cur cs0 h1 h2 e=>?_⟩
 ·have e1:=k5.cel k cur t h1 h2 h3 h4 h5 e
  exact(hx k (zac (e1.trans e)) h1).trans e1
 ·have e1:=k5.map k es c h1 e
  exact(hx k (zac (e1.trans e)) (fun e2=>by subst e2; rw[b0] at e; cases e)).trans e1
 ·obtain⟨e1,cs1,e2,e3⟩:=k5.own i t hi k cur cs0 h1 h2 e
  refine⟨(hx k (zac (e1.trans e)) (fun e4=>by subst e4; rw[b0] at e; simp at e; rcases hi with⟨-,rfl⟩|⟨-,rfl⟩<;>exact absurd e.2 (by decide))).trans e1,_,heap_setCell_same W' mb o _ _ v' b1,fun x hx4=>?_⟩
  rw[b0] at h1
  simp only[Option.some.injEq,Obj.cells.injEq,and_true] at h1
  subst h1
  by_cases hio:o=i
  ·subst hio
   have hlt:o<cs.size:=by omega
   have hx5:v'=x:=by simpa [hlt] using hx4
   subst hx5
   intro hk
   rcases hv k hk with h5|h5
   ·exact h2 v hcv h5
   ·have:=zac e; omega
  ·rw[Array.getElem?_setIfInBounds_ne hio] at hx4
   exact h2 x hx4
theorem MkAt.push (h:MkAt mb sh m vw vi vj kb W)(g:W.grownBy W' vj.ownBlock){v':Value}(hv:∀ k,v'.ownBlock=some k→vj.ownBlock=some k∨W.heap.size≤k):KpG mb kb none W (W'.setCell ⟨mb,4,none⟩ v'):=by
 obtain⟨g1,g2,g3,g4,g5⟩:=h.jbs g
 exact zwa 4 (.inl rfl) g5 h.box g1 rfl rfl hv
theorem MkAt.pushW (h:MkAt mb sh m vw vi vj kb W){L:List Gen.Wt}{v0:Value}(row:zfv (mb+1) W' v0 L)(g:W.grownBy W' vw.ownBlock){v':Value}(hv:∀ k,v'.ownBlock=some k→vw.ownBlock=some k∨W.heap.size≤k):KpG mb kb none W (W'.setCell ⟨mb,1,none⟩ v'):=by
 obtain⟨g1,g2,g3,g4,g5⟩:=h.wts row g
 exact zwa 1 (.inr rfl) g5 h.box g1 rfl rfl hv
end
structure Lays (mb kb:Nat)(ub:Option Nat)(sh:Bool)(m:Mk)(w w':World):Prop where
 at':∃ vw vi vj kb',MkAt mb sh m vw vi vj kb' w'∧(kb'=kb∨w.heap.size≤kb')
 kp:KpG mb kb ub w w'
theorem Lays.below {mb kb:Nat}{ub:Option Nat}{sh:Bool}{m:Mk}{A B C:World}(h:Lays mb kb ub sh m A B)(b:Below B.heap.size B C):Lays mb kb ub sh m A C:=by
 obtain⟨vw,vi,vj,kb',h1,h2⟩:=h.at'
 exact⟨⟨vw,vi,vj,kb',h1.below b,h2⟩,h.kp.trans (kb':=kb) (KpG.of b (Nat.le_of_lt h1.lt)) (.inl rfl)⟩
theorem Lays.wk {mb kb:Nat}{ub:Option Nat}{sh:Bool}{m:Mk}{A B:World}(h:Lays mb kb none sh m A B):Lays mb kb ub sh m A B:=⟨h.at',h.kp.wk⟩
theorem KpG.then {mb kb kb':Nat}{ub:Option Nat}{sh:Bool}{m:Mk}{A B C:World}(h:KpG mb kb ub A B)(hk:kb'=kb∨A.heap.size≤kb')(k:Lays mb kb' ub sh m B C):Lays mb kb ub sh m A C:=by
 obtain⟨vw,vi,vj,kb2,h1,h2⟩:=k.at'
 refine⟨⟨vw,vi,vj,kb2,h1,?_⟩,h.trans k.kp hk⟩
 rcases h2 with rfl|h2
 ·exact hk
 ·exact .inr (Nat.le_trans h.bel.size h2)
theorem Lays.box {mb kb:Nat}{sh:Bool}{m:Mk}{W W':World}(h:Lays mb kb none sh m W W'){k:Nat}{cur:Array Value}{t:TypeId}(h1:k≠mb)(h3:t≠73)(h4:t≠76)(h5:t≠104)
  (e:W.heap[k]? = some (.cells cur t (0,0))):W'.heap[k]? = some (.cells cur t (0,0)):=h.kp.box h1 (fun u e=>by cases e) h3 h4 h5 e
def Own1 (mb i B:Nat)(cur:Array Value)(t:TypeId)(W:World):Prop:=zuf i t∧W.heap[B]? = some (.cells cur t (0,0))∧∃ cs,W.heap[mb]? = some (.cells cs 66 (0,0))∧zsb i cs B
theorem Own1.kp {mb kb i B:Nat}{ub:Option Nat}{cur:Array Value}{t:TypeId}{W W':World}(h:Own1 mb i B cur t W)(k:KpG mb kb ub W W'):Own1 mb i B cur t W':=by
 obtain⟨h1,h2,cs,h3,h4⟩:=h
 obtain⟨e1,cs',e2,e3⟩:=k.own i t h1 B cur cs h3 h4 h2
 exact⟨h1,e1.trans h2,cs',e2,e3⟩
theorem Own1.newJob {mb B:Nat}{sh:Bool}{m:Mk}{vw vi vj:Value}{kb:Nat}{cur:Array Value}{W:World}(h:MkAt mb sh m vw vi vj kb W)(e:W.heap[B]? = some (.cells cur 104 (0,0)))(hb:∀ k,vj.ownBlock=some k→k≠B):Own1 mb 4 B cur 104 W:=
 ⟨.inl ⟨rfl,rfl⟩,e,_,h.box,fun v hv hk=>by
  obtain rfl:vj=v:=by simpa using hv
  exact hb B hk rfl⟩
theorem Own1.newWait {mb B:Nat}{sh:Bool}{m:Mk}{vw vi vj:Value}{kb:Nat}{cur:Array Value}{W:World}(h:MkAt mb sh m vw vi vj kb W)(e:W.heap[B]? = some (.cells cur 76 (0,0)))(hb:∀ k,vw.ownBlock=some k→k≠B):Own1 mb 1 B cur 76 W:=
 ⟨.inr ⟨rfl,rfl⟩,e,_,h.box,fun v hv hk=>by
  obtain rfl:vw=v:=by simpa using hv
  exact hb B hk rfl⟩
end Gf
end
section
open Go.RowKit
open Rw
set_option maxRecDepth 100000
namespace Gf
theorem qem {w:World}{ops:Array Oper}{o:Oper}{a:Act}{K:Act→World→Prop}{Q:Exit→Act→World→Prop}{E:Prop}(hgd:o.guard=none)(s x:Operand)
  (ho:o.op=.call { callee:=.builtin .append,args:=#[s,x],argTypes:=#[27,27] })
  (base:Nat) (v:Value) (L:List Gen.Ix) (hs:a.eval s=v) (hown:zfq base w v L) (y:Gen.Ix) (hx:a.eval x=.slice (some ⟨w.heap.size,0,none⟩) 1 1)
  (hbound:L.length+1≤1000000) (hbase:base≤w.heap.size)
  (h:∀ v' w',zfq base w' v' (L++[y])→w.grownBy w' v.ownBlock→K (a.put o.dst v') w'):
  if Region.wanted o (yielded ops a.tmps)=true then Oper.wp Tryz.prog o a (w.alloc (.cells #[.int .i64 y.op,.int .i64 y.a,.int .i64 y.b,.int .i64 y.c,.int .i64 y.n,.string y.s,.int .i64 y.to] 73)) K Q else E:=by
 have hw:Region.wanted o (yielded ops a.tmps)=true:=by simp[Region.wanted,hgd]
 rw[if_pos hw]
 obtain⟨i,hi,hz,hsz,hby⟩:=info_split zxc
 refine wp_append_own _ s x 27 ho base 73 i _ 7 64 Tryz.underlying27 hi hz hsz hby rfl (by decide) v L.length _ hs (World.ownsRow.alloc hown _) ⟨w.heap.size,0,none⟩ 1 1 (ix7 y) hx rfl
  (fun j u hj=>?_) (fun u hu=>?_) (by unfold maxLen; omega) (by omega) (by simp; omega) (fun v' w' h1 h2 _=>h v' w' ?_ (grown_trans (grown_of_below ((Below.refl _ _).alloc (Nat.le_refl _) _) _) h2))
 ·rw[add_gen,World.cell?_alloc_new,Nat.zero_add,←hj]
  simp[ix7]
 ·simp only[ix7,List.mem_cons,List.not_mem_nil,or_false] at hu
  rcases hu with rfl|rfl|rfl|rfl|rfl|rfl|rfl<;>rfl
 ·show World.ownsRow w' base _ 7 v' (L++[y]).length ((L++[y]).flatMap ix7)
  rw[List.length_append,List.flatMap_append]
  simpa using h1
def qfk (mb kb:Nat)(sh:Bool)(m:Mk)(x:Gen.Ix)(w:World)(e:Ending)(w':World):Prop:=e=.returned (.int .i64 m.ins.length)∧Lays mb kb none sh (m.lay x) w w'
set_option maxHeartbeats 2000000 in
theorem zdc (mb kb:Nat)(sh:Bool)(m:Mk)(vw vi vj:Value)(x:Gen.Ix)(w:World)(h:MkAt mb sh m vw vi vj kb w)(hl:m.ins.length≤900000):
  Calls Tryz.prog 102 #[.pointer (some ⟨mb,0,none⟩),.agg #[.int .i64 x.op,.int .i64 x.a,.int .i64 x.b,.int .i64 x.c,.int .i64 x.n,.string x.s,.int .i64 x.to]] w (qfk mb kb sh m x w):=by
 obtain⟨p,c,rfl⟩:=zay h.ri
 have B0:=(Below.refl w.heap.size w).alloc (Nat.le_refl _) (.cells #[.int .i64 x.op,.int .i64 x.a,.int .i64 x.b,.int .i64 x.c,.int .i64 x.n,.string x.s,.int .i64 x.to] 73)
 have HB:=hid' (show qed _ w.heap.size x from heap_alloc_new w _)
 have HS:=hid' (h.below B0)
 have HKP:=hid' (KpG.of (mb:=mb) (kb:=kb) (ub:=none) B0 (Nat.le_of_lt h.lt))
 have hw1:IntKind.i64.wrap ((m.ins.length:Int)+1 - 1)=(m.ins.length:Int):=by rw[Int.add_sub_cancel]; exact IntWalk.i64_in _ (by omega)
 have hll:(m.lay x).ins.length=m.ins.length+1:=by simp[Mk.lay]
 have HL:=hid' hl
 have HLL:=hid' hll
 clear B0 h hl hll
 go_enter Tryz.func102,Tryz.ntmps102
 go_upto_region 1 with(fail)
 generalize w.alloc (.cells #[.int .i64 x.op,.int .i64 x.a,.int .i64 x.b,.int .i64 x.c,.int .i64 x.n,.string x.s,.int .i64 x.to] 73)=w2 at *
 generalize w.heap.size=xb at *
 have x0:=zaa HB.out 0 _ rfl
 have x1:=zaa HB.out 1 _ rfl
 have x2:=zaa HB.out 2 _ rfl
 have x3:=zaa HB.out 3 _ rfl
 have x4:=zaa HB.out 4 _ rfl
 have x5:=zaa HB.out 5 _ rfl
 have x6:=zaa HB.out 6 _ rfl
 have m2:=zaa HS.out.box 2 _ rfl
 go_cut [0] (fun v wx=>v=.pointer (some ⟨mb,0,none⟩)∧∃ vi',Hid (MkAt mb sh (m.lay x) vw vi' vj kb wx∧KpG mb kb none w wx))
 case first=>
  have hl2:m.ins.length+1≤1000000:=by have:=HL.out; omega
  have hD:=hid' (show zfq (mb+1) w2.drew (.slice p m.ins.length c) m.ins∧w2.drew.heap[mb]? = some (.cells #[.int .i64 m.regs,vw,.slice p m.ins.length c,.bool sh,vj,.int .i64 m.next,.map (some kb),.bool m.over] 66 (0,0)) from⟨HS.out.ri,HS.out.box⟩)
  have hpc:=zaa hD.out.2 2 _ rfl
  have hal:=zcl m2 (.cells #[.int .i64 x.op,.int .i64 x.a,.int .i64 x.b,.int .i64 x.c,.int .i64 x.n,.string x.s,.int .i64 x.to] 73)
  go_region_law (first|(refine qem rfl _ _ (by rfl) (mb+1) (.slice p m.ins.length c) m.ins (by rfl) hD.out.1 x (by rfl) hl2 (zac hD.out.2) ?_; intro v' w5 h5 h6; have hk5:=(h6.block mb (zac hD.out.2) (fun e=>zes hD.out.1 (by omega) e.symm)).trans hD.out.2; have hkc:=zaa hk5 2 _ rfl; have hkf:=frozen_of (o:=2) hk5; obtain⟨p5,c5,rfl⟩:=zay h5))
  all_goals go_wp2_with fail
  all_goals go_meet
  all_goals
   have hq:=MkAt.ins (W:=w2.drew) (show MkAt mb sh m vw (.slice p m.ins.length c) vj kb w2.drew from⟨HS.out.box,HS.out.rw,HS.out.ri,(by obtain⟨J,e1,e2,e3⟩:=HS.out.rj; exact⟨J,e1,e2,fun x hx=>(e3 x hx).kept ((Below.refl mb w2).drew) (Nat.le_refl _)⟩),(by obtain⟨n,e1,e2⟩:=HS.out.kn; exact⟨n,e1,e2⟩),HS.out.kb⟩) h5 h6
   obtain⟨q1,q2,q3,⟨n,q4,q5⟩,q6⟩:=hq
   have h7:zfq (mb+1) w5 (Value.slice p5 (m.ins.length+1) c5) (m.ins++[x]):=by rw[List.length_append,List.length_singleton] at h5; exact h5
   have qd:KpG mb kb none w2 w2.drew:=KpG.of ((Below.refl _ w2).drew) (Nat.le_of_lt HS.out.lt)
   exact⟨rfl,_,MkAt.reset 2 _ q1 rfl q2 h7 q3 ⟨n,q4,q5⟩ HS.out.kb,((HKP.out.trans qd (.inl rfl)).trans q6 (.inl rfl)).trans (zmh 2 _ q1 (by rintro _ (rfl|rfl)<;>rfl)) (.inl rfl)⟩
 case rest=>
  obtain⟨rfl,vi',H5⟩:=hcut
  obtain⟨p5,c5,rfl⟩:=zay H5.out.1.ri
  have y2:=zaa H5.out.1.box 2 _ rfl
  rw[HLL.out] at y2
  clear x0 x1 x2 x3 x4 x5 x6 m2
  go_wp2_with fail
  go_ret
  have hw2:wrap64 (m.ins.length:Int)=(m.ins.length:Int):=by have:=HL.out; exact IntWalk.wrap64_in _ (by omega)
  exact⟨by simp[hw2],⟨_,_,_,_,H5.out.1,.inl rfl⟩,H5.out.2⟩
set_option maxHeartbeats 2000000 in
theorem zij (mb kb:Nat)(sh:Bool)(m:Mk)(vw vi vj:Value)(w:World)(h:MkAt mb sh m vw vi vj kb w)(hl:m.ins.length≤900000):
  Calls Tryz.prog 51 #[.pointer (some ⟨mb,0,none⟩)] w (fun e w'=>(∃ r,e=.returned r)∧Lays mb kb none sh m.fin w w'):=by
 have HL:=hid' (zdc mb kb sh m vw vi vj (ix 30 0 0 0) w h hl)
 clear h
 unfold ix txt0 at HL
 go_enter Tryz.func51,Tryz.ntmps51
 go_wp2_with fail
 refine HL.out.mono ?_
 rintro e w2 ⟨rfl,H2⟩
 have H:=hid' H2
 clear H2
 go_wp2_with fail
 refine bodyPost_end (results_none rfl _ _ _) rfl ?_
 exact⟨⟨_,rfl⟩,H.out⟩
def JumpFn (mb:Nat)(W:World)(f:Value)(p:Nat):Prop:=∃ b1 b2,f=.func (.func 150) #[] #[.pointer (some ⟨b1,0,none⟩),.pointer (some ⟨b2,0,none⟩)]∧mb<b1∧mb<b2 ∧
 W.heap[b1]? = some (.cells #[.pointer (some ⟨mb,0,none⟩)] 62 (0,0))∧W.heap[b2]? = some (.cells #[.int .i64 p] 3 (0,0))
theorem JumpFn.kp {mb kb:Nat}{ub:Option Nat}{W W':World}{f:Value}{p:Nat}(h:JumpFn mb W f p)(k:KpG mb kb ub W W')(hu:∀ u,ub=some u→∃ cur,W.heap[u]? = some (.cells cur 141 (0,0))):JumpFn mb W' f p:=by
 obtain⟨b1,b2,rfl,h1,h2,h3,h4⟩:=h
 refine⟨b1,b2,rfl,h1,h2,k.box (by omega) (fun u e=>⟨?_,by decide⟩) (by decide) (by decide) (by decide) h3,k.box (by omega) (fun u e=>⟨?_,by decide⟩) (by decide) (by decide) (by decide) h4⟩
 ·rintro rfl
  obtain⟨cur,e2⟩:=hu _ e
  rw[h3] at e2
  simp at e2
 ·rintro rfl
  obtain⟨cur,e2⟩:=hu _ e
  rw[h4] at e2
  simp at e2
theorem JumpFn.below {mb:Nat}{W W':World}{f:Value}{p:Nat}(h:JumpFn mb W f p)(b:Below W.heap.size W W'):JumpFn mb W' f p:=by
 obtain⟨b1,b2,rfl,h1,h2,h3,h4⟩:=h
 exact⟨b1,b2,rfl,h1,h2,zad b h3,zad b h4⟩
set_option maxHeartbeats 2000000 in
theorem zcp (mb kb:Nat)(sh:Bool)(m:Mk)(vw vi vj:Value)(x:Gen.Ix)(w:World)(h:MkAt mb sh m vw vi vj kb w)(hl:m.ins.length≤900000):
  Calls Tryz.prog 106 #[.pointer (some ⟨mb,0,none⟩),.agg #[.int .i64 x.op,.int .i64 x.a,.int .i64 x.b,.int .i64 x.c,.int .i64 x.n,.string x.s,.int .i64 x.to]] w
   (fun e w'=>∃ f,e=.returned f∧JumpFn mb w' f m.ins.length∧Lays mb kb none sh (m.lay x) w w'):=by
 have B0:=(Below.refl w.heap.size w).alloc (Nat.le_refl _) (.cells #[.pointer (some ⟨mb,0,none⟩)] 62)
 have y0:=heap_alloc_new w (.cells #[.pointer (some ⟨mb,0,none⟩)] 62)
 have B1:=B0.alloc (by simp) (.cells #[.int .i64 x.op,.int .i64 x.a,.int .i64 x.b,.int .i64 x.c,.int .i64 x.n,.string x.s,.int .i64 x.to] 73)
 have y1:=heap_alloc_new (w.alloc (.cells #[.pointer (some ⟨mb,0,none⟩)] 62)) (.cells #[.int .i64 x.op,.int .i64 x.a,.int .i64 x.b,.int .i64 x.c,.int .i64 x.n,.string x.s,.int .i64 x.to] 73)
 replace y0:=zad ((Below.refl (w.alloc (.cells #[.pointer (some ⟨mb,0,none⟩)] 62)).heap.size _).alloc (Nat.le_refl _) (.cells #[.int .i64 x.op,.int .i64 x.a,.int .i64 x.b,.int .i64 x.c,.int .i64 x.n,.string x.s,.int .i64 x.to] 73)) y0
 simp only[World.size_alloc] at y1
 have HB:=hid' (And.intro y0 (And.intro y1 B1))
 have HS:=hid' (h.below B1)
 have hlt:=h.lt
 have HL:=hid' hl
 clear B0 B1 y0 y1 h hl
 go_enter Tryz.func106,Tryz.ntmps106
 go_upto_region 1 with(fail)
 generalize World.alloc _ _=w2 at *
 have z0:=zaa HB.out.1 0 _ rfl
 have z1:=zaa HB.out.2.1 0 _ rfl
 have z2:=zaa HB.out.2.1 1 _ rfl
 have z3:=zaa HB.out.2.1 2 _ rfl
 have z4:=zaa HB.out.2.1 3 _ rfl
 have z5:=zaa HB.out.2.1 4 _ rfl
 have z6:=zaa HB.out.2.1 5 _ rfl
 have z7:=zaa HB.out.2.1 6 _ rfl
 have HLY:=hid' (zdc mb kb sh m vw vi vj x w2 HS.out HL.out)
 go_wp2_with fail
 refine HLY.out.mono ?_
 rintro e w3 ⟨rfl,H3⟩
 have hne:w.heap.size≠mb:=by omega
 have HB3:=hid' (H3.box hne (by decide) (by decide) (by decide) HB.out.1)
 have hb3:=(Below.refl w3.heap.size w3).alloc (Nat.le_refl _) (.cells #[.int .i64 m.ins.length] 3)
 have hn3:=heap_alloc_new w3 (.cells #[.int .i64 m.ins.length] 3)
 have HN3:=hid' hn3
 have HB4:=hid' (zad hb3 HB3.out)
 have HK:=hid' (KpG.of (mb:=mb) (kb:=kb) (ub:=none) HB.out.2.2 (Nat.le_of_lt hlt))
 have H4:=hid' ((HK.out.then (.inl rfl) H3).below hb3)
 have HLT:=hid' (show mb<w3.heap.size from Nat.lt_of_lt_of_le hlt (Nat.le_trans HB.out.2.2.size H3.kp.bel.size))
 clear H3 hb3 hn3 z0 z1 z2 z3 z4 z5 z6 z7
 go_wp2_with fail
 go_ret
 exact⟨_,rfl,⟨_,_,rfl,hlt,HLT.out,HB4.out,HN3.out⟩,H4.out⟩
theorem zwn (p:Nat)(l:List Gen.Ix):(toHere p l).length=l.length:=by simp[toHere]
theorem zuj (p:Nat)(l:List Gen.Ix)(h:p<l.length):(toHere p l).flatMap ix7=(l.flatMap ix7).set (p * 7+6) (.int .i64 l.length):=
 zoa ix7 _ 7 6 _ (fun _=>rfl) (by decide) (fun _=>rfl) l p h
theorem MkAt.toHere {mb:Nat}{sh:Bool}{m:Mk}{vw vi vj:Value}{kb:Nat}{W:World}(h:MkAt mb sh m vw vi vj kb W){p g:Nat}(hp:p<m.ins.length)(hg:vi.ownBlock=some g):
  MkAt mb sh (m.here p) vw vi vj kb (W.setCell ⟨g,p * 7+6,none⟩ (.int .i64 m.ins.length))∧KpG mb kb none W (W.setCell ⟨g,p * 7+6,none⟩ (.int .i64 m.ins.length)):=by
 have hrow:zfq (mb+1) (W.setCell ⟨g,p * 7+6,none⟩ (.int .i64 m.ins.length)) vi (Gf.toHere p m.ins):=by
  unfold zfq
  rw[zwn,zuj p _ hp]
  refine zvw h.ri hg _ ?_ _
  rw[zrh ix7 7 (fun _=>rfl)]
  omega
 have hgr:W.grownBy (W.setCell ⟨g,p * 7+6,none⟩ (.int .i64 m.ins.length)) vi.ownBlock:=by rw[hg]; exact grown_set _ _ _ _
 obtain⟨q1,q2,q3,⟨n,q4,q5⟩,q6⟩:=h.ins hrow hgr
 exact⟨⟨q1,q2,hrow,q3,⟨n,q4,q5⟩,h.kb⟩,q6⟩
set_option maxHeartbeats 2000000 in
theorem zdw (mb kb:Nat)(sh:Bool)(m:Mk)(vw vi vj:Value)(p b1 b2:Nat)(w:World)(h:MkAt mb sh m vw vi vj kb w)(hl:m.ins.length≤900000)(hp:p<m.ins.length)
  (h1:w.heap[b1]? = some (.cells #[.pointer (some ⟨mb,0,none⟩)] 62 (0,0))) (h2:w.heap[b2]? = some (.cells #[.int .i64 p] 3 (0,0))):
  Calls Tryz.prog 150 #[.pointer (some ⟨b1,0,none⟩),.pointer (some ⟨b2,0,none⟩)] w (fun e w'=>(∃ r,e=.returned r)∧Lays mb kb none sh (m.here p) w w'):=by
 obtain⟨g,c,rfl,hg, -, -,hc⟩:=zlv h.ri (by omega:0<m.ins.length)
 obtain⟨x,hx⟩:∃ x,m.ins[p]? = some x:=⟨_,List.getElem?_eq_getElem hp⟩
 have c6:w.cell? ⟨g,p * 7+6,none⟩=some (.int .i64 x.to):=hc _ _ ((cells_at ix7 7 (fun _=>rfl) m.ins p x 6 hx (by decide)).trans rfl)
 have f6:w.frozen? ⟨g,p * 7+6,none⟩=false:=zos h.ri hg _
 have m2:=zaa h.box 2 _ rfl
 have y1:=zaa h1 0 _ rfl
 have y2:=zaa h2 0 _ rfl
 have j1:(0:Int)≤(p:Int):=by omega
 have j2:(p:Int)<(m.ins.length:Int):=by omega
 have HF:=hid' (MkAt.toHere (W:=w.drew) (show MkAt mb sh m vw (.slice (some ⟨g,0,none⟩) m.ins.length c) vj kb w.drew from h.below (Below.refl _ w).drew) hp hg)
 have HK:=hid' (KpG.of (mb:=mb) (kb:=kb) (ub:=none) (Below.refl _ w).drew (Nat.le_of_lt h.lt))
 clear h hl hp h1 h2 hc hx hg
 go_enter Tryz.func150,Tryz.ntmps150
 go_still_tail 14,(by kernel_rfl)
 change wpList _ _ _ _ _ w.drew
 replace c6:w.drew.cell? ⟨g,p * 7+6,none⟩=some (.int .i64 x.to):=c6
 replace f6:w.drew.frozen? ⟨g,p * 7+6,none⟩=false:=f6
 go_wp2_with fail
 refine bodyPost_end (results_none rfl _ _ _) rfl ?_
 exact⟨⟨_,rfl⟩,⟨_,_,_,_,HF.out.1,.inl rfl⟩,HK.out.trans HF.out.2 (.inl rfl)⟩
theorem MkAt.parts {mb:Nat}{sh:Bool}{m m':Mk}{vw vi vj:Value}{kb:Nat}{W:World}(h:MkAt mb sh m vw vi vj kb W)(o:Nat)(v:Value)
  (hcs:#[Value.int .i64 m.regs,vw,vi,.bool sh,vj,.int .i64 m.next,.map (some kb),.bool m.over].setIfInBounds o v=#[.int .i64 m'.regs,vw,vi,.bool sh,vj,.int .i64 m'.next,.map (some kb),.bool m'.over])
  (h1:m'.ws=m.ws) (h2:m'.ins=m.ins) (h3:m'.jobs=m.jobs) (h4:m'.known=m.known) (h5:m'.puts=m.puts):MkAt mb sh m' vw vi vj kb (W.setCell ⟨mb,o,none⟩ v)∧KpG mb kb none W (W.setCell ⟨mb,o,none⟩ v):=
 ⟨MkAt.reset o v h.box hcs (by rw[h1]; exact h.rw) (by rw[h2]; exact h.ri) (by rw[h3]; exact h.rj) (by rw[h5,h4]; exact h.kn) h.kb,zmh o v h.box (by rw[hcs]; rintro _ (rfl|rfl)<;>rfl)⟩
theorem MkAt.drew {mb:Nat}{sh:Bool}{m:Mk}{vw vi vj:Value}{kb:Nat}{W:World}(h:MkAt mb sh m vw vi vj kb W):MkAt mb sh m vw vi vj kb W.drew:=h.below (Below.refl _ W).drew
theorem MkAt.kd {mb:Nat}{ub:Option Nat}{sh:Bool}{m:Mk}{vw vi vj:Value}{kb:Nat}{W:World}(h:MkAt mb sh m vw vi vj kb W):KpG mb kb ub W W.drew:=KpG.of (Below.refl _ W).drew (Nat.le_of_lt h.lt)
set_option maxHeartbeats 2000000 in
theorem zin (mb kb:Nat)(sh:Bool)(m:Mk)(vw vi vj:Value)(w:World)(h:MkAt mb sh m vw vi vj kb w)(hn:0≤m.next∧m.next≤900000):
  Calls Tryz.prog 103 #[.pointer (some ⟨mb,0,none⟩)] w (fun e w'=>e=.returned (.int .i64 m.next)∧Lays mb kb none sh m.reg w w'):=by
 have hw1:IntKind.i64.wrap (m.next+1)=m.next+1:=IntWalk.i64_in _ (by omega)
 have c5:=zaa h.box 5 _ rfl
 have f5:=frozen_of (o:=5) h.box
 have H1:=hid' (h.parts (m':={ m with next:=m.next+1 }) 5 (.int .i64 (m.next+1)) rfl rfl rfl rfl rfl rfl)
 clear h hn
 go_enter Tryz.func103,Tryz.ntmps103
 go_upto_region 3 with(fail)
 clear c5 f5
 generalize World.setCell _ _ _=w1 at *
 have c5:=zaa H1.out.1.box 5 _ rfl
 have c0:=zaa H1.out.1.box 0 _ rfl
 have f0:=frozen_of (o:=0) H1.out.1.box
 have H2a:=H1.out.1.parts (m':={ m with next:=m.next+1,regs:=max m.regs (m.next+1) }) 0 (.int .i64 (max m.regs (m.next+1))) rfl rfl rfl rfl rfl rfl
 have H2:=hid' (And.intro H2a.1.drew ((H1.out.2.trans H2a.2 (.inl rfl)).trans H2a.1.kd (.inl rfl)))
 clear H2a
 go_still_tail 14,(by kernel_rfl)
 change wpList _ _ _ _ _ w1.drew
 replace c0:w1.drew.cell? ⟨mb,0,none⟩=some (.int .i64 m.regs):=c0
 replace f0:w1.drew.frozen? ⟨mb,0,none⟩=false:=f0
 replace c5:w1.cell? ⟨mb,5,none⟩=some (.int .i64 (m.next+1)):=c5
 go_upto_region 4 with(fail)
 clear c0 c5 f0
 generalize World.drew (World.setCell _ _ _)=w2 at *
 have c5:w2.cell? ⟨mb,5,none⟩=some (.int .i64 (m.next+1)):=zaa H2.out.1.box 5 _ rfl
 by_cases hov:256<m.next+1
 ·have g1:decide (256<m.next+1)=true:=decide_eq_true hov
  have HG:=hid' hov
  clear hov
  have c7:=zaa H2.out.1.box 7 _ rfl
  have f7:=frozen_of (o:=7) H2.out.1.box
  have H3:=hid' (H2.out.1.parts (m':={ m with next:=m.next+1,regs:=max m.regs (m.next+1),over:=true }) 7 (.bool true) rfl rfl rfl rfl rfl rfl)
  go_wp2_with fail
  go_ret
  have e:m.reg = { m with next:=m.next+1,regs:=max m.regs (m.next+1),over:=true }:=by unfold Mk.reg; rw[decide_eq_true HG.out,Bool.or_true]
  refine⟨rfl,?_,?_⟩
  ·rw[e]; exact⟨_,_,_,_,H3.out.1,.inl rfl⟩
  ·exact H2.out.2.trans H3.out.2 (.inl rfl)
 ·have g1:decide (256<m.next+1)=false:=decide_eq_false hov
  have HG:=hid' hov
  clear hov
  go_wp2_with fail
  go_ret
  have e:m.reg = { m with next:=m.next+1,regs:=max m.regs (m.next+1) }:=by unfold Mk.reg; rw[decide_eq_false (by have:=HG.out; omega),Bool.or_false]
  refine⟨rfl,?_,H2.out.2⟩
  rw[e]; exact⟨_,_,_,_,H2.out.1,.inl rfl⟩
end Gf
end
section
open Go.RowKit
open Rw
set_option maxRecDepth 100000
namespace Gf
section
variable {mb:Nat}{sh:Bool}{m:Mk}{vw vi vj:Value}{kb:Nat}{W:World}
theorem MkAt.setF (h:MkAt mb sh m vw vi vj kb W){j g f:Nat}{u:Value}{fn:Gen.Wt→Gen.Wt}(hj:j<m.ws.length)(hg:vw.ownBlock=some g)(hf:f<5)(hfn:∀ x,wt5 (fn x)=(wt5 x).set f u):
  MkAt mb sh (m.setW j fn) vw vi vj kb (W.setCell ⟨g,j * 5+f,none⟩ u)∧KpG mb kb none W (W.setCell ⟨g,j * 5+f,none⟩ u):=by
 have hlen:(m.ws.modify j fn).length=m.ws.length:=by simp
 have hrow:zfv (mb+1) (W.setCell ⟨g,j * 5+f,none⟩ u) vw (m.ws.modify j fn):=by
  unfold zfv
  rw[hlen,zoa wt5 fn 5 f u (fun _=>rfl) hf hfn m.ws j hj]
  refine zvw h.rw hg _ ?_ _
  rw[zrh wt5 5 (fun _=>rfl)]
  omega
 have hgr:W.grownBy (W.setCell ⟨g,j * 5+f,none⟩ u) vw.ownBlock:=by rw[hg]; exact grown_set _ _ _ _
 obtain⟨q1,q2,q3,q4,q5⟩:=h.wts hrow hgr
 exact⟨⟨q1,hrow,q2,q3,q4,h.kb⟩,q5⟩
theorem MkAt.wcell (h:MkAt mb sh m vw vi vj kb W){j:Nat}{x:Gen.Wt}(hx:m.ws[j]? = some x):∃ g c,vw=.slice (some ⟨g,0,none⟩) m.ws.length c∧vw.ownBlock=some g∧mb<g∧(∀(f:Nat) v,(wt5 x)[f]? = some v→W.cell? ⟨g,j * 5+f,none⟩=some v)∧∀ o,W.frozen? ⟨g,o,none⟩=false:=by
 have hj:=(List.getElem?_eq_some_iff.1 hx).1
 obtain⟨g,c,e,hg,hb, -,hc⟩:=zlv h.rw (by omega:0<m.ws.length)
 refine⟨g,c,e,hg,hb,fun f v hf=>hc _ _ ?_,fun o=>zos h.rw hg o⟩
 have hf5:f<5:=by
  have:=(List.getElem?_eq_some_iff.1 hf).1
  simpa [wt5] using this
 exact(cells_at wt5 5 (fun _=>rfl) m.ws j x f hx hf5).trans hf
theorem zvt {m:Mk}{j:Nat}{x:Gen.Wt}(f:Gen.Wt→Gen.Wt)(h:m.ws[j]? = some x):(m.setW j f).ws[j]? = some (f x):=by
 show(m.ws.modify j f)[j]? = _
 rw[List.getElem?_modify,h]
 simp
theorem MkAt.setAll (h:MkAt mb sh m vw vi vj kb W){j g:Nat}{x y:Gen.Wt}(hx:m.ws[j]? = some x)(hg:vw.ownBlock=some g):
  MkAt mb sh (m.setW j fun _=>y) vw vi vj kb (((((W.setCell ⟨g,j * 5,none⟩ (.int .i64 y.entry)).setCell ⟨g,j * 5+1,none⟩ (.int .i64 y.day)).setCell ⟨g,j * 5+2,none⟩ (.string y.label)).setCell ⟨g,j * 5+3,none⟩ (.int .i64 y.first)).setCell ⟨g,j * 5+4,none⟩ (.int .i64 y.second)) ∧
   KpG mb kb none W (((((W.setCell ⟨g,j * 5,none⟩ (.int .i64 y.entry)).setCell ⟨g,j * 5+1,none⟩ (.int .i64 y.day)).setCell ⟨g,j * 5+2,none⟩ (.string y.label)).setCell ⟨g,j * 5+3,none⟩ (.int .i64 y.first)).setCell ⟨g,j * 5+4,none⟩ (.int .i64 y.second)):=by
 have hj:=(List.getElem?_eq_some_iff.1 hx).1
 have hl:∀(m:Mk) (f:Gen.Wt→Gen.Wt),(m.setW j f).ws.length=m.ws.length:=fun m f=>by simp[Mk.setW]
 obtain⟨h1,k1⟩:=h.setF (f:=0) (u:=.int .i64 y.entry) (fn:=fun w=>{ w with entry:=y.entry }) hj hg (by decide) (fun _=>rfl)
 obtain⟨h2,k2⟩:=h1.setF (f:=1) (u:=.int .i64 y.day) (fn:=fun w=>{ w with day:=y.day }) (by rw[hl]; exact hj) hg (by decide) (fun _=>rfl)
 obtain⟨h3,k3⟩:=h2.setF (f:=2) (u:=.string y.label) (fn:=fun w=>{ w with label:=y.label }) (by rw[hl,hl]; exact hj) hg (by decide) (fun _=>rfl)
 obtain⟨h4,k4⟩:=h3.setF (f:=3) (u:=.int .i64 y.first) (fn:=fun w=>{ w with first:=y.first }) (by rw[hl,hl,hl]; exact hj) hg (by decide) (fun _=>rfl)
 obtain⟨h5,k5⟩:=h4.setF (f:=4) (u:=.int .i64 y.second) (fn:=fun w=>{ w with second:=y.second }) (by rw[hl,hl,hl,hl]; exact hj) hg (by decide) (fun _=>rfl)
 have e:((((m.setW j fun w=>{ w with entry:=y.entry }).setW j fun w=>{ w with day:=y.day }).setW j fun w=>{ w with label:=y.label }).setW j fun w=>{ w with first:=y.first }).setW j (fun w=>{ w with second:=y.second })=m.setW j fun _=>y:=by
  unfold Mk.setW
  simp only[List.modify_modify_eq]
  rfl
 rw[e] at h5
 exact⟨h5,(((k1.trans k2 (.inl rfl)).trans k3 (.inl rfl)).trans k4 (.inl rfl)).trans k5 (.inl rfl)⟩
end
theorem MkAt.otherW {mb:Nat}{sh:Bool}{m:Mk}{vw vi vj:Value}{kb:Nat}{W W':World}(h:MkAt mb sh m vw vi vj kb W){k:Nat}(g:W.grownBy W' (some k)){cur:Array Value}(e:W.heap[k]? = some (.cells cur 76 (0,0)))(h1:mb<k)(hne:vw.ownBlock≠some k):MkAt mb sh m vw vi vj kb W':=by
 have hb:Below mb W W':=⟨g.os,g.tape,g.output,g.size,fun j hj=>g.block j (Nat.lt_trans hj h.lt) (fun e=>by cases e; omega)⟩
 obtain⟨n,hn1,hn2⟩:=h.kn
 refine⟨box_grown g (by omega) h.box,World.ownsRow.kept h.rw g (.inr hne),World.ownsRow.kept h.ri g (zjs h.ri e (by decide)),?_,⟨n,hn1,hn2.kept g ?_⟩,h.kb⟩
 ·obtain⟨J,e1,e2,e3⟩:=h.rj
  exact JbRow.kept ⟨J,e1,e2,e3⟩ g (zmt e2 e (by decide)) hb
 ·intro e2
  cases e2
  obtain⟨D,⟨es,clock,e3,_⟩,_⟩:=hn2
  rw[e] at e3
  cases e3
theorem KpG.mine {mb kb:Nat}{ub:Option Nat}{A B C:World}(h:KpG mb kb ub A B){k:Nat}(g:B.grownBy C (some k))(hk:A.heap.size≤k)(hm:mb<A.heap.size):KpG mb kb ub A C:=by
 have hx:∀ j,j<A.heap.size→C.heap[j]? = B.heap[j]?:=fun j hj=>g.block j (Nat.lt_of_lt_of_le hj h.bel.size) (fun e=>by cases e; omega)
 refine⟨h.bel.trans ⟨g.os,g.tape,g.output,g.size,fun j hj=>hx j (Nat.lt_trans hj hm)⟩,fun j cur t h1 h2 h3 h4 h5 e=>(hx j (zac e)).trans (h.cel j cur t h1 h2 h3 h4 h5 e),fun j es c h1 e=>(hx j (zac e)).trans (h.map j es c h1 e),fun i t hi j cur cs h1 h2 e=>?_⟩
 obtain⟨e1,cs',e2,e3⟩:=h.own i t hi j cur cs h1 h2 e
 exact⟨(hx j (zac e)).trans e1,cs',(hx mb hm).trans e2,e3⟩
theorem Own1.set {mb i B:Nat}{cur:Array Value}{t:TypeId}{W:World}(h:Own1 mb i B cur t W)(hb:mb<B)(o:Nat)(v:Value):Own1 mb i B (cur.setIfInBounds o v) t (W.setCell ⟨B,o,none⟩ v):=by
 obtain⟨h1,h2,cs,h3,h4⟩:=h
 exact⟨h1,heap_setCell_same W B o _ _ v h2,cs,(Below.heap_setCell W ⟨B,o,none⟩ v mb (by show mb≠B; omega)).trans h3,h4⟩
theorem Own1.far {mb i B k:Nat}{cur:Array Value}{t:TypeId}{W W':World}(h:Own1 mb i B cur t W)(g:W.grownBy W' (some k))(hb:B≠k)(hm:mb≠k):Own1 mb i B cur t W':=by
 obtain⟨h1,h2,cs,h3,h4⟩:=h
 exact⟨h1,box_grown g hb h2,cs,box_grown g hm h3,h4⟩
theorem Own1.below {mb i B:Nat}{cur:Array Value}{t:TypeId}{W W':World}(h:Own1 mb i B cur t W)(b:Below W.heap.size W W'):Own1 mb i B cur t W':=by
 obtain⟨h1,h2,cs,h3,h4⟩:=h
 exact⟨h1,zad b h2,cs,zad b h3,h4⟩
theorem Own1.ne {mb B:Nat}{sh:Bool}{m:Mk}{vw vi vj:Value}{kb:Nat}{cur:Array Value}{t:TypeId}{W:World}(h:MkAt mb sh m vw vi vj kb W)(o:Own1 mb 1 B cur t W):vw.ownBlock≠some B:=by
 obtain⟨-, -,cs,h3,h4⟩:=o
 rw[h.box] at h3
 simp only[Option.some.injEq,Obj.cells.injEq,and_true] at h3
 subst h3
 exact h4 vw rfl
end Gf
end
section
open Go.RowKit
set_option maxRecDepth 100000
structure IdleAt (w:World)(C A B:Array Value)(ba bb:Nat)(W:World):Prop where
 below:Below w.heap.size w W
 c:W.heap[w.heap.size]? = some (.cells C 24 (0,0))
 r:W.heap[w.heap.size+1]? = some (.cells #[.int .i64 0,.int .i64 0,.string ⟨#[]⟩,.slice none 0 0] 24 (0,0))
 a:W.heap[ba]? = some (.cells A 24 (0,0))
 b:W.heap[bb]? = some (.cells B 24 (0,0))
theorem IdleAt.more {w W W':World}{C A B:Array Value}{ba bb:Nat}(h:IdleAt w C A B ba bb W)(hb:Below W.heap.size W W'):IdleAt w C A B ba bb W':=
 ⟨h.below.trans (hb.mono h.below.size),(hb.block _ (zac h.c)).trans h.c,(hb.block _ (zac h.r)).trans h.r,(hb.block _ (zac h.a)).trans h.a,(hb.block _ (zac h.b)).trans h.b⟩
theorem zwc {w w1:World}{C:Array Value}(hB:Below w.heap.size w w1)(hc:w1.heap[w.heap.size]? = some (.cells C 24 (0,0)))
  (hr:w1.heap[w.heap.size+1]? = some (.cells #[.int .i64 0,.int .i64 0,.string ⟨#[]⟩,.slice none 0 0] 24 (0,0))) (A B:Array Value):
  IdleAt w C A B w1.heap.size (w1.heap.size+1) ((w1.alloc (.cells A 24)).alloc (.cells B 24)).drew ∧
  IdleAt w C A B (w1.heap.size+1) w1.heap.size ((w1.alloc (.cells B 24)).alloc (.cells A 24)).drew:=by
 have two:∀ X Y:Array Value,(((w1.alloc (.cells X 24)).alloc (.cells Y 24)).drew.heap[w1.heap.size]? = some (.cells X 24 (0,0))∧((w1.alloc (.cells X 24)).alloc (.cells Y 24)).drew.heap[w1.heap.size+1]? = some (.cells Y 24 (0,0)))∧Below w1.heap.size w1 ((w1.alloc (.cells X 24)).alloc (.cells Y 24)).drew:=by
  intro X Y
  refine⟨⟨?_,?_⟩,(((Below.refl _ _).alloc (Nat.le_refl _) _).alloc (by simp) _).drew⟩
  ·exact(((Below.refl _ (w1.alloc (.cells X 24))).alloc (Nat.le_refl _) (.cells Y 24)).block w1.heap.size (by simp)).trans (heap_alloc_new w1 _)
  ·have:=heap_alloc_new (w1.alloc (.cells X 24)) (.cells Y 24)
   simp only[World.size_alloc] at this
   exact this
 obtain⟨⟨a1,a2⟩,a3⟩:=two A B
 obtain⟨⟨c1,c2⟩,c3⟩:=two B A
 exact⟨⟨hB.trans (a3.mono hB.size),(a3.block _ (zac hc)).trans hc,(a3.block _ (zac hr)).trans hr,a1,a2⟩,⟨hB.trans (c3.mono hB.size),(c3.block _ (zac hc)).trans hc,(c3.block _ (zac hr)).trans hr,c2,c1⟩⟩
set_option maxHeartbeats 4000000 in
theorem zup (ok:Nat→Prop)(t:Co.T)(v:Value)(w:World)(hv:CoreIn ok w t v)(hx:t.letter≠0)(h0:0<t.ks.length):
  Calls Tryz.prog 91 #[v] w (zeh ok (Co.idle t) w):=by
 obtain⟨op,n,s,p,ln,c,rfl,hop,hn,hs,hln⟩:=zbn hv
 have HV:=hid' hv
 obtain⟨bl,off,rfl,hrows⟩:=zfa hv h0
 have hb0:=heap_alloc_new w (.cells #[.int .i64 op,.int .i64 n,.string s,.slice (some ⟨bl,off,none⟩) ln c] 24)
 have hr0:=heap_alloc_new (w.alloc (.cells #[.int .i64 op,.int .i64 n,.string s,.slice (some ⟨bl,off,none⟩) ln c] 24)) (.cells #[.int .i64 0,.int .i64 0,.string ⟨#[]⟩,.slice none 0 0] 24)
 simp only[World.size_alloc] at hr0
 have hB0:Below w.heap.size w ((w.alloc (.cells #[.int .i64 op,.int .i64 n,.string s,.slice (some ⟨bl,off,none⟩) ln c] 24)).alloc (.cells #[.int .i64 0,.int .i64 0,.string ⟨#[]⟩,.slice none 0 0] 24)):=((Below.refl w.heap.size w).alloc (Nat.le_refl _) _).alloc (by simp) _
 have hc0:=(((Below.refl _ (w.alloc (.cells #[.int .i64 op,.int .i64 n,.string s,.slice (some ⟨bl,off,none⟩) ln c] 24))).alloc (Nat.le_refl _) (.cells #[.int .i64 0,.int .i64 0,.string ⟨#[]⟩,.slice none 0 0] 24)).block w.heap.size (by simp)).trans hb0
 have j0:(0:Int)<(ln:Int):=by omega
 have HOP:=hid' hop
 have HN:=hid' hn
 have HLN:=hid' hln
 have HROWS:=hid' hrows
 have HX:=hid' hx
 have H0:=hid' h0
 clear hb0 hop hn hs hln hrows hx h0 hv
 go_enter Tryz.func91,Tryz.ntmps91
 go_upto_region 1 with(fail)
 generalize World.alloc _ _=w1 at *
 have HB0:=hid' hB0
 have HR0:=hid' hr0
 have HC0:=hid' hc0
 obtain⟨k,kat⟩:∃ k,t.ks[0]? = some k:=⟨_,List.getElem?_eq_getElem H0.out⟩
 obtain⟨kop,kn,ks,kp,klen,kc,kH⟩:=HROWS.out 0 k kat
 have kK:=hid' (kH.below hB0)
 have kV:=hid' kH.val
 have kLT:=hid' kH.lt
 clear kH
 clear hr0 hB0
 obtain⟨d0,d1,d2,d3⟩:=zab HC0.out
 have KAT:=hid' kat
 clear hc0 kat
 by_cases h2:ln=2
 ·subst h2
  obtain⟨j,hj⟩:∃ j,t.ks[1]? = some j:=⟨_,List.getElem?_eq_getElem (by rw[HLN.out]; decide)⟩
  obtain⟨jop,jn,js,jp,jlen,jc,jH⟩:=HROWS.out 1 j hj
  have jK:=hid' (jH.below HB0.out)
  have jV:=hid' jH.val
  clear jH
  have eK:t.kid 0=k:=by unfold Co.T.kid; rw[KAT.out]; rfl
  have eJ:t.kid 1=j:=by unfold Co.T.kid; rw[hj]; rfl
  have HD:=hid' (show Co.idle t=if Co.idleL op k j=true then some j else if Co.idleR op k j=true then some k else none by
   unfold Co.idle
   rw[if_pos HLN.out,eK,eJ,HOP.out])
  have HKO:=hid' (And.intro kK.out.op' kK.out.n')
  have HJO:=hid' (And.intro jK.out.op' jK.out.n')
  have hlt:=zac HR0.out
  have HLT:=hid' hlt
  have HBL:=hid' kLT.out
  clear eK eJ hj hlt
  go_upto_region 4 with(fail)
  go_cut [4,5] (fun v4 v5 wx=>∃ wn ba bb,wn=wx∧v4=.pointer (some ⟨ba,0,none⟩)∧v5=.pointer (some ⟨bb,0,none⟩)∧Hid (IdleAt w #[.int .i64 op,.int .i64 n,.string s,.slice (some ⟨bl,off,none⟩) 2 c] #[.int .i64 kop,.int .i64 kn,.string ks,.slice kp klen kc] #[.int .i64 jop,.int .i64 jn,.string js,.slice jp jlen jc]  ba bb wn))
  case first=>
   have kx0:=kK.out.x0
   have kx1:=kK.out.x1
   have kx2:=kK.out.x2
   have kx3:=kK.out.x3
   simp only[Nat.zero_mul,Nat.add_zero,Nat.one_mul] at kx0 kx1 kx2 kx3
   have jx0:=jK.out.x0
   have jx1:=jK.out.x1
   have jx2:=jK.out.x2
   have jx3:=jK.out.x3
   simp only[Nat.zero_mul,Nat.add_zero,Nat.one_mul] at jx0 jx1 jx2 jx3
   go_wp2_with fail
   have n0:=World.new_ne w1 _ d3
   have n1:=World.new_ne w1 _ kx0
   have HN8:∀(o1 o2:Obj) (W:World),W=((w1.alloc o1).alloc o2)→True:=fun _ _ _ _=>trivial
   have j0n:0<2:=by decide
   go_region_held3 (fun w'=>w'.cell? ⟨w.heap.size,3,none⟩=some (.slice (some ⟨bl,off,none⟩) 2 c)∧w'.cell? ⟨bl,off,none⟩=some (.int .i64 kop)∧w'.cell? ⟨bl,off+1,none⟩=some (.int .i64 kn)∧w'.cell? ⟨bl,off+2,none⟩=some (.string ks)∧w'.cell? ⟨bl,off+3,none⟩=some (.slice kp klen kc)∧w'.cell? ⟨bl,off+4,none⟩=some (.int .i64 jop)∧w'.cell? ⟨bl,off+4+1,none⟩=some (.int .i64 jn)∧w'.cell? ⟨bl,off+4+2,none⟩=some (.string js)∧w'.cell? ⟨bl,off+4+3,none⟩=some (.slice jp jlen jc))
    (first|exact⟨zcf d3,zcf kx0,zcf kx1,zcf kx2,zcf kx3,zcf jx0,zcf jx1,zcf jx2,zcf jx3⟩|go_keep|simp[*]) (fail)
   all_goals go_wp2_with fail
   all_goals go_meet
   all_goals first
    |exact⟨_,_,_,rfl,rfl,rfl,hid' (zwc HB0.out HC0.out HR0.out _ _).1⟩
    |exact⟨_,_,_,rfl,rfl,rfl,hid' (zwc HB0.out HC0.out HR0.out _ _).2⟩
  case rest=>
   obtain⟨wx,ba,bb,rfl,rfl,rfl,HI⟩:=hcut
   clear d0 d1 d2 d3
   obtain⟨d0,d1,d2,d3⟩:=zab HI.out.c
   obtain⟨x0,x1,x2,x3⟩:=zab HI.out.a
   obtain⟨z0,z1,z2,z3⟩:=zab HI.out.b
   by_cases h7:op=7
   ·subst h7
    obtain⟨gl,hgl⟩:∃ g,Hid ((kop == 1 && kn == 0)=g):=⟨_,hid' rfl⟩
    obtain⟨gr,hgr⟩:∃ g,Hid ((jop == 1 && jn == 0)=g):=⟨_,hid' rfl⟩
    have HL:=hid' (show Co.idleL 7 k j=gl by unfold Co.idleL Co.isNum; rw[HKO.out.1,HKO.out.2,hgl.out]; rfl)
    have HR:=hid' (show Co.idleR 7 k j=gr by unfold Co.idleR Co.isNum; rw[HJO.out.1,HJO.out.2,hgr.out]; rfl)
    go_wp2_with fail
    refine zam (Below wx.heap.size wx) (by kernel_rfl) (by kernel_rfl) (Below.refl _ _).drew ?_
    repeat (first
     |(refine zaq ?_ ?_
       ·rfl
       simp only[Act.put,List.setIfInBounds_toArray,List.set_cons_zero,List.set_cons_succ])
     |(apply zal 137 #[.agg #[.int .i64 jop,.int .i64 jn,.string js,.slice jp jlen jc],.int .i64 0]
       ·rfl
       ·(intro w' hSw; obtain⟨d0,d1,d2,d3⟩:=zab ((hSw.block _ (zac HI.out.c)).trans HI.out.c); obtain⟨x0,x1,x2,x3⟩:=zab ((hSw.block _ (zac HI.out.a)).trans HI.out.a); obtain⟨z0,z1,z2,z3⟩:=zab ((hSw.block _ (zac HI.out.b)).trans HI.out.b); go_simp; done)
       ·(intro w' hSw; refine(zdu _ _ 0 _ _ _ _ w').mono ?_; rintro e w'' ⟨rfl,b⟩; exact⟨by rw[hgr.out],hSw.trans (b.mono hSw.size)⟩)
       simp only[Act.put,List.setIfInBounds_toArray,List.set_cons_zero,List.set_cons_succ])
     |(apply zal 137 #[.agg #[.int .i64 kop,.int .i64 kn,.string ks,.slice kp klen kc],.int .i64 0]
       ·rfl
       ·(intro w' hSw; obtain⟨d0,d1,d2,d3⟩:=zab ((hSw.block _ (zac HI.out.c)).trans HI.out.c); obtain⟨x0,x1,x2,x3⟩:=zab ((hSw.block _ (zac HI.out.a)).trans HI.out.a); obtain⟨z0,z1,z2,z3⟩:=zab ((hSw.block _ (zac HI.out.b)).trans HI.out.b); go_simp; done)
       ·(intro w' hSw; refine(zdu _ _ 0 _ _ _ _ w').mono ?_; rintro e w'' ⟨rfl,b⟩; exact⟨by rw[hgl.out],hSw.trans (b.mono hSw.size)⟩)
       simp only[Act.put,List.setIfInBounds_toArray,List.set_cons_zero,List.set_cons_succ])
     |(apply zar
       ·rfl
       ·(intro w' hSw; obtain⟨d0,d1,d2,d3⟩:=zab ((hSw.block _ (zac HI.out.c)).trans HI.out.c); obtain⟨x0,x1,x2,x3⟩:=zab ((hSw.block _ (zac HI.out.a)).trans HI.out.a); obtain⟨z0,z1,z2,z3⟩:=zab ((hSw.block _ (zac HI.out.b)).trans HI.out.b); first|(go_simp; done)|(go_simp; with_reducible rfl))
       simp only[Act.put,List.setIfInBounds_toArray,List.set_cons_zero,List.set_cons_succ]))
    refine zas ?_
    intro w3 hS'
    have HI3:=hid' (HI.out.more hS')
    clear hS' d0 d1 d2 d3 x0 x1 x2 x3 z0 z1 z2 z3
    obtain⟨d0,d1,d2,d3⟩:=zab HI3.out.c
    obtain⟨x0,x1,x2,x3⟩:=zab HI3.out.a
    obtain⟨z0,z1,z2,z3⟩:=zab HI3.out.b
    cases gl with
    |true=>
     obtain⟨r0,r1,r2,r3⟩:=zab HI3.out.r
     have HS:=hid' (set4 HI3.out.r (.int .i64 jop) (.int .i64 jn) (.string js) (.slice jp jlen jc))
     have f0:∀ o,w3.frozen? ⟨w.heap.size+1,o,none⟩=false:=fun o=>Rw.frozen_of HI3.out.r
     have HF:=hid' (show Co.idle t=some j by rw[HD.out,HL.out,HR.out]; rfl)
     go_wp2_with fail
     obtain⟨hbx,hbl⟩:=HS.out
     generalize World.setCell _ _ _=w9 at *
     obtain⟨y0,y1,y2,y3⟩:=zab hbx
     refine bodyPost_ret (v:=.tuple #[.agg #[.int .i64 jop,.int .i64 jn,.string js,.slice jp jlen jc],.bool true]) (by simp[results,Tryz.results91,go_sem,y0,y1,y2,y3]) rfl ?_
     have hbb:=HI3.out.below.trans (hbl w.heap.size (by omega))
     exact⟨hbb,j,_,by rw[HF.out]; rfl,(jV.out.under hbb).old,fun x h=>by rw[HF.out] at h; cases h; rfl⟩
    |false=>
     cases gr with
     |true=>
      obtain⟨r0,r1,r2,r3⟩:=zab HI3.out.r
      have HS:=hid' (set4 HI3.out.r (.int .i64 kop) (.int .i64 kn) (.string ks) (.slice kp klen kc))
      have f0:∀ o,w3.frozen? ⟨w.heap.size+1,o,none⟩=false:=fun o=>Rw.frozen_of HI3.out.r
      have HF:=hid' (show Co.idle t=some k by rw[HD.out,HL.out,HR.out]; rfl)
      go_wp2_with fail
      obtain⟨hbx,hbl⟩:=HS.out
      generalize World.setCell _ _ _=w9 at *
      obtain⟨y0,y1,y2,y3⟩:=zab hbx
      refine bodyPost_ret (v:=.tuple #[.agg #[.int .i64 kop,.int .i64 kn,.string ks,.slice kp klen kc],.bool true]) (by simp[results,Tryz.results91,go_sem,y0,y1,y2,y3]) rfl ?_
      have hbb:=HI3.out.below.trans (hbl w.heap.size (by omega))
      exact⟨hbb,k,_,by rw[HF.out]; rfl,(kV.out.under hbb).old,fun x h=>by rw[HF.out] at h; cases h; rfl⟩
     |false=>
      obtain⟨r0,r1,r2,r3⟩:=zab HI3.out.r
      have HS:=hid' (set4 HI3.out.r (.int .i64 7) (.int .i64 n) (.string s) (.slice (some ⟨bl,off,none⟩) 2 c))
      have f0:∀ o,w3.frozen? ⟨w.heap.size+1,o,none⟩=false:=fun o=>Rw.frozen_of HI3.out.r
      have HF:=hid' (show Co.idle t=none by rw[HD.out,HL.out,HR.out]; rfl)
      go_wp2_with fail
      obtain⟨hbx,hbl⟩:=HS.out
      generalize World.setCell _ _ _=w9 at *
      obtain⟨y0,y1,y2,y3⟩:=zab hbx
      refine bodyPost_ret (v:=.tuple #[.agg #[.int .i64 7,.int .i64 n,.string s,.slice (some ⟨bl,off,none⟩) 2 c],.bool false]) (by simp[results,Tryz.results91,go_sem,y0,y1,y2,y3]) rfl ?_
      have hbb:=HI3.out.below.trans (hbl w.heap.size (by omega))
      exact⟨hbb,t,_,by rw[HF.out]; rfl,(HV.out.under hbb).old,fun x h=>by rw[HF.out] at h; cases h⟩
   by_cases h9:op=9
   ·subst h9
    obtain⟨gl,hgl⟩:∃ g,Hid ((kop == 1 && kn == 1000000)=g):=⟨_,hid' rfl⟩
    obtain⟨gr,hgr⟩:∃ g,Hid ((jop == 1 && jn == 1000000)=g):=⟨_,hid' rfl⟩
    have HL:=hid' (show Co.idleL 9 k j=gl by unfold Co.idleL Co.isNum; rw[HKO.out.1,HKO.out.2,hgl.out]; rfl)
    have HR:=hid' (show Co.idleR 9 k j=gr by unfold Co.idleR Co.isNum; rw[HJO.out.1,HJO.out.2,hgr.out]; rfl)
    go_wp2_with fail
    refine zam (Below wx.heap.size wx) (by kernel_rfl) (by kernel_rfl) (Below.refl _ _).drew ?_
    repeat (first
     |(refine zaq ?_ ?_
       ·rfl
       simp only[Act.put,List.setIfInBounds_toArray,List.set_cons_zero,List.set_cons_succ])
     |(apply zal 137 #[.agg #[.int .i64 jop,.int .i64 jn,.string js,.slice jp jlen jc],.int .i64 1000000]
       ·rfl
       ·(intro w' hSw; obtain⟨d0,d1,d2,d3⟩:=zab ((hSw.block _ (zac HI.out.c)).trans HI.out.c); obtain⟨x0,x1,x2,x3⟩:=zab ((hSw.block _ (zac HI.out.a)).trans HI.out.a); obtain⟨z0,z1,z2,z3⟩:=zab ((hSw.block _ (zac HI.out.b)).trans HI.out.b); go_simp; done)
       ·(intro w' hSw; refine(zdu _ _ 1000000 _ _ _ _ w').mono ?_; rintro e w'' ⟨rfl,b⟩; exact⟨by rw[hgr.out],hSw.trans (b.mono hSw.size)⟩)
       simp only[Act.put,List.setIfInBounds_toArray,List.set_cons_zero,List.set_cons_succ])
     |(apply zal 137 #[.agg #[.int .i64 kop,.int .i64 kn,.string ks,.slice kp klen kc],.int .i64 1000000]
       ·rfl
       ·(intro w' hSw; obtain⟨d0,d1,d2,d3⟩:=zab ((hSw.block _ (zac HI.out.c)).trans HI.out.c); obtain⟨x0,x1,x2,x3⟩:=zab ((hSw.block _ (zac HI.out.a)).trans HI.out.a); obtain⟨z0,z1,z2,z3⟩:=zab ((hSw.block _ (zac HI.out.b)).trans HI.out.b); go_simp; done)
       ·(intro w' hSw; refine(zdu _ _ 1000000 _ _ _ _ w').mono ?_; rintro e w'' ⟨rfl,b⟩; exact⟨by rw[hgl.out],hSw.trans (b.mono hSw.size)⟩)
       simp only[Act.put,List.setIfInBounds_toArray,List.set_cons_zero,List.set_cons_succ])
     |(apply zar
       ·rfl
       ·(intro w' hSw; obtain⟨d0,d1,d2,d3⟩:=zab ((hSw.block _ (zac HI.out.c)).trans HI.out.c); obtain⟨x0,x1,x2,x3⟩:=zab ((hSw.block _ (zac HI.out.a)).trans HI.out.a); obtain⟨z0,z1,z2,z3⟩:=zab ((hSw.block _ (zac HI.out.b)).trans HI.out.b); first|(go_simp; done)|(go_simp; with_reducible rfl))
       simp only[Act.put,List.setIfInBounds_toArray,List.set_cons_zero,List.set_cons_succ]))
    refine zas ?_
    intro w3 hS'
    have HI3:=hid' (HI.out.more hS')
    clear hS' d0 d1 d2 d3 x0 x1 x2 x3 z0 z1 z2 z3
    obtain⟨d0,d1,d2,d3⟩:=zab HI3.out.c
    obtain⟨x0,x1,x2,x3⟩:=zab HI3.out.a
    obtain⟨z0,z1,z2,z3⟩:=zab HI3.out.b
    cases gl with
    |true=>
     obtain⟨r0,r1,r2,r3⟩:=zab HI3.out.r
     have HS:=hid' (set4 HI3.out.r (.int .i64 jop) (.int .i64 jn) (.string js) (.slice jp jlen jc))
     have f0:∀ o,w3.frozen? ⟨w.heap.size+1,o,none⟩=false:=fun o=>Rw.frozen_of HI3.out.r
     have HF:=hid' (show Co.idle t=some j by rw[HD.out,HL.out,HR.out]; rfl)
     go_wp2_with fail
     obtain⟨hbx,hbl⟩:=HS.out
     generalize World.setCell _ _ _=w9 at *
     obtain⟨y0,y1,y2,y3⟩:=zab hbx
     refine bodyPost_ret (v:=.tuple #[.agg #[.int .i64 jop,.int .i64 jn,.string js,.slice jp jlen jc],.bool true]) (by simp[results,Tryz.results91,go_sem,y0,y1,y2,y3]) rfl ?_
     have hbb:=HI3.out.below.trans (hbl w.heap.size (by omega))
     exact⟨hbb,j,_,by rw[HF.out]; rfl,(jV.out.under hbb).old,fun x h=>by rw[HF.out] at h; cases h; rfl⟩
    |false=>
     cases gr with
     |true=>
      obtain⟨r0,r1,r2,r3⟩:=zab HI3.out.r
      have HS:=hid' (set4 HI3.out.r (.int .i64 kop) (.int .i64 kn) (.string ks) (.slice kp klen kc))
      have f0:∀ o,w3.frozen? ⟨w.heap.size+1,o,none⟩=false:=fun o=>Rw.frozen_of HI3.out.r
      have HF:=hid' (show Co.idle t=some k by rw[HD.out,HL.out,HR.out]; rfl)
      go_wp2_with fail
      obtain⟨hbx,hbl⟩:=HS.out
      generalize World.setCell _ _ _=w9 at *
      obtain⟨y0,y1,y2,y3⟩:=zab hbx
      refine bodyPost_ret (v:=.tuple #[.agg #[.int .i64 kop,.int .i64 kn,.string ks,.slice kp klen kc],.bool true]) (by simp[results,Tryz.results91,go_sem,y0,y1,y2,y3]) rfl ?_
      have hbb:=HI3.out.below.trans (hbl w.heap.size (by omega))
      exact⟨hbb,k,_,by rw[HF.out]; rfl,(kV.out.under hbb).old,fun x h=>by rw[HF.out] at h; cases h; rfl⟩
     |false=>
      obtain⟨r0,r1,r2,r3⟩:=zab HI3.out.r
      have HS:=hid' (set4 HI3.out.r (.int .i64 9) (.int .i64 n) (.string s) (.slice (some ⟨bl,off,none⟩) 2 c))
      have f0:∀ o,w3.frozen? ⟨w.heap.size+1,o,none⟩=false:=fun o=>Rw.frozen_of HI3.out.r
      have HF:=hid' (show Co.idle t=none by rw[HD.out,HL.out,HR.out]; rfl)
      go_wp2_with fail
      obtain⟨hbx,hbl⟩:=HS.out
      generalize World.setCell _ _ _=w9 at *
      obtain⟨y0,y1,y2,y3⟩:=zab hbx
      refine bodyPost_ret (v:=.tuple #[.agg #[.int .i64 9,.int .i64 n,.string s,.slice (some ⟨bl,off,none⟩) 2 c],.bool false]) (by simp[results,Tryz.results91,go_sem,y0,y1,y2,y3]) rfl ?_
      have hbb:=HI3.out.below.trans (hbl w.heap.size (by omega))
      exact⟨hbb,t,_,by rw[HF.out]; rfl,(HV.out.under hbb).old,fun x h=>by rw[HF.out] at h; cases h⟩
   by_cases h15:op=15
   ·subst h15
    obtain⟨gl,hgl⟩:∃ g,Hid ((kop == 2 && kn == 1)=g):=⟨_,hid' rfl⟩
    obtain⟨gr,hgr⟩:∃ g,Hid ((jop == 2 && jn == 1)=g):=⟨_,hid' rfl⟩
    have HL:=hid' (show Co.idleL 15 k j=gl by unfold Co.idleL Co.isBool; rw[HKO.out.1,HKO.out.2,hgl.out]; rfl)
    have HR:=hid' (show Co.idleR 15 k j=gr by unfold Co.idleR Co.isBool; rw[HJO.out.1,HJO.out.2,hgr.out]; rfl)
    go_wp2_with fail
    refine zam (Below wx.heap.size wx) (by kernel_rfl) (by kernel_rfl) (Below.refl _ _).drew ?_
    repeat (first
     |(refine zaq ?_ ?_
       ·rfl
       simp only[Act.put,List.setIfInBounds_toArray,List.set_cons_zero,List.set_cons_succ])
     |(apply zal 138 #[.agg #[.int .i64 jop,.int .i64 jn,.string js,.slice jp jlen jc],.int .i64 1]
       ·rfl
       ·(intro w' hSw; obtain⟨d0,d1,d2,d3⟩:=zab ((hSw.block _ (zac HI.out.c)).trans HI.out.c); obtain⟨x0,x1,x2,x3⟩:=zab ((hSw.block _ (zac HI.out.a)).trans HI.out.a); obtain⟨z0,z1,z2,z3⟩:=zab ((hSw.block _ (zac HI.out.b)).trans HI.out.b); go_simp; done)
       ·(intro w' hSw; refine(zch _ _ 1 _ _ _ _ w').mono ?_; rintro e w'' ⟨rfl,b⟩; exact⟨by rw[hgr.out],hSw.trans (b.mono hSw.size)⟩)
       simp only[Act.put,List.setIfInBounds_toArray,List.set_cons_zero,List.set_cons_succ])
     |(apply zal 138 #[.agg #[.int .i64 kop,.int .i64 kn,.string ks,.slice kp klen kc],.int .i64 1]
       ·rfl
       ·(intro w' hSw; obtain⟨d0,d1,d2,d3⟩:=zab ((hSw.block _ (zac HI.out.c)).trans HI.out.c); obtain⟨x0,x1,x2,x3⟩:=zab ((hSw.block _ (zac HI.out.a)).trans HI.out.a); obtain⟨z0,z1,z2,z3⟩:=zab ((hSw.block _ (zac HI.out.b)).trans HI.out.b); go_simp; done)
       ·(intro w' hSw; refine(zch _ _ 1 _ _ _ _ w').mono ?_; rintro e w'' ⟨rfl,b⟩; exact⟨by rw[hgl.out],hSw.trans (b.mono hSw.size)⟩)
       simp only[Act.put,List.setIfInBounds_toArray,List.set_cons_zero,List.set_cons_succ])
     |(apply zar
       ·rfl
       ·(intro w' hSw; obtain⟨d0,d1,d2,d3⟩:=zab ((hSw.block _ (zac HI.out.c)).trans HI.out.c); obtain⟨x0,x1,x2,x3⟩:=zab ((hSw.block _ (zac HI.out.a)).trans HI.out.a); obtain⟨z0,z1,z2,z3⟩:=zab ((hSw.block _ (zac HI.out.b)).trans HI.out.b); first|(go_simp; done)|(go_simp; with_reducible rfl))
       simp only[Act.put,List.setIfInBounds_toArray,List.set_cons_zero,List.set_cons_succ]))
    refine zas ?_
    intro w3 hS'
    have HI3:=hid' (HI.out.more hS')
    clear hS' d0 d1 d2 d3 x0 x1 x2 x3 z0 z1 z2 z3
    obtain⟨d0,d1,d2,d3⟩:=zab HI3.out.c
    obtain⟨x0,x1,x2,x3⟩:=zab HI3.out.a
    obtain⟨z0,z1,z2,z3⟩:=zab HI3.out.b
    cases gl with
    |true=>
     obtain⟨r0,r1,r2,r3⟩:=zab HI3.out.r
     have HS:=hid' (set4 HI3.out.r (.int .i64 jop) (.int .i64 jn) (.string js) (.slice jp jlen jc))
     have f0:∀ o,w3.frozen? ⟨w.heap.size+1,o,none⟩=false:=fun o=>Rw.frozen_of HI3.out.r
     have HF:=hid' (show Co.idle t=some j by rw[HD.out,HL.out,HR.out]; rfl)
     go_wp2_with fail
     obtain⟨hbx,hbl⟩:=HS.out
     generalize World.setCell _ _ _=w9 at *
     obtain⟨y0,y1,y2,y3⟩:=zab hbx
     refine bodyPost_ret (v:=.tuple #[.agg #[.int .i64 jop,.int .i64 jn,.string js,.slice jp jlen jc],.bool true]) (by simp[results,Tryz.results91,go_sem,y0,y1,y2,y3]) rfl ?_
     have hbb:=HI3.out.below.trans (hbl w.heap.size (by omega))
     exact⟨hbb,j,_,by rw[HF.out]; rfl,(jV.out.under hbb).old,fun x h=>by rw[HF.out] at h; cases h; rfl⟩
    |false=>
     cases gr with
     |true=>
      obtain⟨r0,r1,r2,r3⟩:=zab HI3.out.r
      have HS:=hid' (set4 HI3.out.r (.int .i64 kop) (.int .i64 kn) (.string ks) (.slice kp klen kc))
      have f0:∀ o,w3.frozen? ⟨w.heap.size+1,o,none⟩=false:=fun o=>Rw.frozen_of HI3.out.r
      have HF:=hid' (show Co.idle t=some k by rw[HD.out,HL.out,HR.out]; rfl)
      go_wp2_with fail
      obtain⟨hbx,hbl⟩:=HS.out
      generalize World.setCell _ _ _=w9 at *
      obtain⟨y0,y1,y2,y3⟩:=zab hbx
      refine bodyPost_ret (v:=.tuple #[.agg #[.int .i64 kop,.int .i64 kn,.string ks,.slice kp klen kc],.bool true]) (by simp[results,Tryz.results91,go_sem,y0,y1,y2,y3]) rfl ?_
      have hbb:=HI3.out.below.trans (hbl w.heap.size (by omega))
      exact⟨hbb,k,_,by rw[HF.out]; rfl,(kV.out.under hbb).old,fun x h=>by rw[HF.out] at h; cases h; rfl⟩
     |false=>
      obtain⟨r0,r1,r2,r3⟩:=zab HI3.out.r
      have HS:=hid' (set4 HI3.out.r (.int .i64 15) (.int .i64 n) (.string s) (.slice (some ⟨bl,off,none⟩) 2 c))
      have f0:∀ o,w3.frozen? ⟨w.heap.size+1,o,none⟩=false:=fun o=>Rw.frozen_of HI3.out.r
      have HF:=hid' (show Co.idle t=none by rw[HD.out,HL.out,HR.out]; rfl)
      go_wp2_with fail
      obtain⟨hbx,hbl⟩:=HS.out
      generalize World.setCell _ _ _=w9 at *
      obtain⟨y0,y1,y2,y3⟩:=zab hbx
      refine bodyPost_ret (v:=.tuple #[.agg #[.int .i64 15,.int .i64 n,.string s,.slice (some ⟨bl,off,none⟩) 2 c],.bool false]) (by simp[results,Tryz.results91,go_sem,y0,y1,y2,y3]) rfl ?_
      have hbb:=HI3.out.below.trans (hbl w.heap.size (by omega))
      exact⟨hbb,t,_,by rw[HF.out]; rfl,(HV.out.under hbb).old,fun x h=>by rw[HF.out] at h; cases h⟩
   by_cases h16:op=16
   ·subst h16
    obtain⟨gl,hgl⟩:∃ g,Hid ((kop == 2 && kn == 0)=g):=⟨_,hid' rfl⟩
    obtain⟨gr,hgr⟩:∃ g,Hid ((jop == 2 && jn == 0)=g):=⟨_,hid' rfl⟩
    have HL:=hid' (show Co.idleL 16 k j=gl by unfold Co.idleL Co.isBool; rw[HKO.out.1,HKO.out.2,hgl.out]; rfl)
    have HR:=hid' (show Co.idleR 16 k j=gr by unfold Co.idleR Co.isBool; rw[HJO.out.1,HJO.out.2,hgr.out]; rfl)
    go_wp2_with fail
    refine zam (Below wx.heap.size wx) (by kernel_rfl) (by kernel_rfl) (Below.refl _ _).drew ?_
    repeat (first
     |(refine zaq ?_ ?_
       ·rfl
       simp only[Act.put,List.setIfInBounds_toArray,List.set_cons_zero,List.set_cons_succ])
     |(apply zal 138 #[.agg #[.int .i64 jop,.int .i64 jn,.string js,.slice jp jlen jc],.int .i64 0]
       ·rfl
       ·(intro w' hSw; obtain⟨d0,d1,d2,d3⟩:=zab ((hSw.block _ (zac HI.out.c)).trans HI.out.c); obtain⟨x0,x1,x2,x3⟩:=zab ((hSw.block _ (zac HI.out.a)).trans HI.out.a); obtain⟨z0,z1,z2,z3⟩:=zab ((hSw.block _ (zac HI.out.b)).trans HI.out.b); go_simp; done)
       ·(intro w' hSw; refine(zch _ _ 0 _ _ _ _ w').mono ?_; rintro e w'' ⟨rfl,b⟩; exact⟨by rw[hgr.out],hSw.trans (b.mono hSw.size)⟩)
       simp only[Act.put,List.setIfInBounds_toArray,List.set_cons_zero,List.set_cons_succ])
     |(apply zal 138 #[.agg #[.int .i64 kop,.int .i64 kn,.string ks,.slice kp klen kc],.int .i64 0]
       ·rfl
       ·(intro w' hSw; obtain⟨d0,d1,d2,d3⟩:=zab ((hSw.block _ (zac HI.out.c)).trans HI.out.c); obtain⟨x0,x1,x2,x3⟩:=zab ((hSw.block _ (zac HI.out.a)).trans HI.out.a); obtain⟨z0,z1,z2,z3⟩:=zab ((hSw.block _ (zac HI.out.b)).trans HI.out.b); go_simp; done)
       ·(intro w' hSw; refine(zch _ _ 0 _ _ _ _ w').mono ?_; rintro e w'' ⟨rfl,b⟩; exact⟨by rw[hgl.out],hSw.trans (b.mono hSw.size)⟩)
       simp only[Act.put,List.setIfInBounds_toArray,List.set_cons_zero,List.set_cons_succ])
     |(apply zar
       ·rfl
       ·(intro w' hSw; obtain⟨d0,d1,d2,d3⟩:=zab ((hSw.block _ (zac HI.out.c)).trans HI.out.c); obtain⟨x0,x1,x2,x3⟩:=zab ((hSw.block _ (zac HI.out.a)).trans HI.out.a); obtain⟨z0,z1,z2,z3⟩:=zab ((hSw.block _ (zac HI.out.b)).trans HI.out.b); first|(go_simp; done)|(go_simp; with_reducible rfl))
       simp only[Act.put,List.setIfInBounds_toArray,List.set_cons_zero,List.set_cons_succ]))
    refine zas ?_
    intro w3 hS'
    have HI3:=hid' (HI.out.more hS')
    clear hS' d0 d1 d2 d3 x0 x1 x2 x3 z0 z1 z2 z3
    obtain⟨d0,d1,d2,d3⟩:=zab HI3.out.c
    obtain⟨x0,x1,x2,x3⟩:=zab HI3.out.a
    obtain⟨z0,z1,z2,z3⟩:=zab HI3.out.b
    cases gl with
    |true=>
     obtain⟨r0,r1,r2,r3⟩:=zab HI3.out.r
     have HS:=hid' (set4 HI3.out.r (.int .i64 jop) (.int .i64 jn) (.string js) (.slice jp jlen jc))
     have f0:∀ o,w3.frozen? ⟨w.heap.size+1,o,none⟩=false:=fun o=>Rw.frozen_of HI3.out.r
     have HF:=hid' (show Co.idle t=some j by rw[HD.out,HL.out,HR.out]; rfl)
     go_wp2_with fail
     obtain⟨hbx,hbl⟩:=HS.out
     generalize World.setCell _ _ _=w9 at *
     obtain⟨y0,y1,y2,y3⟩:=zab hbx
     refine bodyPost_ret (v:=.tuple #[.agg #[.int .i64 jop,.int .i64 jn,.string js,.slice jp jlen jc],.bool true]) (by simp[results,Tryz.results91,go_sem,y0,y1,y2,y3]) rfl ?_
     have hbb:=HI3.out.below.trans (hbl w.heap.size (by omega))
     exact⟨hbb,j,_,by rw[HF.out]; rfl,(jV.out.under hbb).old,fun x h=>by rw[HF.out] at h; cases h; rfl⟩
    |false=>
     cases gr with
     |true=>
      obtain⟨r0,r1,r2,r3⟩:=zab HI3.out.r
      have HS:=hid' (set4 HI3.out.r (.int .i64 kop) (.int .i64 kn) (.string ks) (.slice kp klen kc))
      have f0:∀ o,w3.frozen? ⟨w.heap.size+1,o,none⟩=false:=fun o=>Rw.frozen_of HI3.out.r
      have HF:=hid' (show Co.idle t=some k by rw[HD.out,HL.out,HR.out]; rfl)
      go_wp2_with fail
      obtain⟨hbx,hbl⟩:=HS.out
      generalize World.setCell _ _ _=w9 at *
      obtain⟨y0,y1,y2,y3⟩:=zab hbx
      refine bodyPost_ret (v:=.tuple #[.agg #[.int .i64 kop,.int .i64 kn,.string ks,.slice kp klen kc],.bool true]) (by simp[results,Tryz.results91,go_sem,y0,y1,y2,y3]) rfl ?_
      have hbb:=HI3.out.below.trans (hbl w.heap.size (by omega))
      exact⟨hbb,k,_,by rw[HF.out]; rfl,(kV.out.under hbb).old,fun x h=>by rw[HF.out] at h; cases h; rfl⟩
     |false=>
      obtain⟨r0,r1,r2,r3⟩:=zab HI3.out.r
      have HS:=hid' (set4 HI3.out.r (.int .i64 16) (.int .i64 n) (.string s) (.slice (some ⟨bl,off,none⟩) 2 c))
      have f0:∀ o,w3.frozen? ⟨w.heap.size+1,o,none⟩=false:=fun o=>Rw.frozen_of HI3.out.r
      have HF:=hid' (show Co.idle t=none by rw[HD.out,HL.out,HR.out]; rfl)
      go_wp2_with fail
      obtain⟨hbx,hbl⟩:=HS.out
      generalize World.setCell _ _ _=w9 at *
      obtain⟨y0,y1,y2,y3⟩:=zab hbx
      refine bodyPost_ret (v:=.tuple #[.agg #[.int .i64 16,.int .i64 n,.string s,.slice (some ⟨bl,off,none⟩) 2 c],.bool false]) (by simp[results,Tryz.results91,go_sem,y0,y1,y2,y3]) rfl ?_
      have hbb:=HI3.out.below.trans (hbl w.heap.size (by omega))
      exact⟨hbb,t,_,by rw[HF.out]; rfl,(HV.out.under hbb).old,fun x h=>by rw[HF.out] at h; cases h⟩
   by_cases h8:op=8
   ·subst h8
    obtain⟨gl,hgl⟩:∃ g,Hid (false=g):=⟨_,hid' rfl⟩
    obtain⟨gr,hgr⟩:∃ g,Hid ((jop == 1 && jn == 0)=g):=⟨_,hid' rfl⟩
    have HL:=hid' (show Co.idleL 8 k j=gl by rw[←hgl.out]; rfl)
    have HR:=hid' (show Co.idleR 8 k j=gr by unfold Co.idleR Co.isNum; rw[HJO.out.1,HJO.out.2,hgr.out]; rfl)
    go_wp2_with fail
    refine(zdu _ _ 0 _ _ _ _ _).mono ?_
    rintro e w3 ⟨rfl,b3⟩
    rw[hgr.out]
    have HI3:=hid' (HI.out.more b3)
    clear b3 d0 d1 d2 d3 x0 x1 x2 x3 z0 z1 z2 z3
    obtain⟨d0,d1,d2,d3⟩:=zab HI3.out.c
    obtain⟨x0,x1,x2,x3⟩:=zab HI3.out.a
    obtain⟨z0,z1,z2,z3⟩:=zab HI3.out.b
    obtain rfl:=hgl.out
    cases gr with
    |true=>
     obtain⟨r0,r1,r2,r3⟩:=zab HI3.out.r
     have HS:=hid' (set4 HI3.out.r (.int .i64 kop) (.int .i64 kn) (.string ks) (.slice kp klen kc))
     have f0:∀ o,w3.frozen? ⟨w.heap.size+1,o,none⟩=false:=fun o=>Rw.frozen_of HI3.out.r
     have HF:=hid' (show Co.idle t=some k by rw[HD.out,HL.out,HR.out]; rfl)
     go_wp2_with fail
     obtain⟨hbx,hbl⟩:=HS.out
     generalize World.setCell _ _ _=w9 at *
     obtain⟨y0,y1,y2,y3⟩:=zab hbx
     refine bodyPost_ret (v:=.tuple #[.agg #[.int .i64 kop,.int .i64 kn,.string ks,.slice kp klen kc],.bool true]) (by simp[results,Tryz.results91,go_sem,y0,y1,y2,y3]) rfl ?_
     have hbb:=HI3.out.below.trans (hbl w.heap.size (by omega))
     exact⟨hbb,k,_,by rw[HF.out]; rfl,(kV.out.under hbb).old,fun x h=>by rw[HF.out] at h; cases h; rfl⟩
    |false=>
     obtain⟨r0,r1,r2,r3⟩:=zab HI3.out.r
     have HS:=hid' (set4 HI3.out.r (.int .i64 8) (.int .i64 n) (.string s) (.slice (some ⟨bl,off,none⟩) 2 c))
     have f0:∀ o,w3.frozen? ⟨w.heap.size+1,o,none⟩=false:=fun o=>Rw.frozen_of HI3.out.r
     have HF:=hid' (show Co.idle t=none by rw[HD.out,HL.out,HR.out]; rfl)
     go_wp2_with fail
     obtain⟨hbx,hbl⟩:=HS.out
     generalize World.setCell _ _ _=w9 at *
     obtain⟨y0,y1,y2,y3⟩:=zab hbx
     refine bodyPost_ret (v:=.tuple #[.agg #[.int .i64 8,.int .i64 n,.string s,.slice (some ⟨bl,off,none⟩) 2 c],.bool false]) (by simp[results,Tryz.results91,go_sem,y0,y1,y2,y3]) rfl ?_
     have hbb:=HI3.out.below.trans (hbl w.heap.size (by omega))
     exact⟨hbb,t,_,by rw[HF.out]; rfl,(HV.out.under hbb).old,fun x h=>by rw[HF.out] at h; cases h⟩
   by_cases h10:op=10
   ·subst h10
    obtain⟨gl,hgl⟩:∃ g,Hid (false=g):=⟨_,hid' rfl⟩
    obtain⟨gr,hgr⟩:∃ g,Hid ((jop == 1 && jn == 1000000)=g):=⟨_,hid' rfl⟩
    have HL:=hid' (show Co.idleL 10 k j=gl by rw[←hgl.out]; rfl)
    have HR:=hid' (show Co.idleR 10 k j=gr by unfold Co.idleR Co.isNum; rw[HJO.out.1,HJO.out.2,hgr.out]; rfl)
    go_wp2_with fail
    refine(zdu _ _ 1000000 _ _ _ _ _).mono ?_
    rintro e w3 ⟨rfl,b3⟩
    rw[hgr.out]
    have HI3:=hid' (HI.out.more b3)
    clear b3 d0 d1 d2 d3 x0 x1 x2 x3 z0 z1 z2 z3
    obtain⟨d0,d1,d2,d3⟩:=zab HI3.out.c
    obtain⟨x0,x1,x2,x3⟩:=zab HI3.out.a
    obtain⟨z0,z1,z2,z3⟩:=zab HI3.out.b
    obtain rfl:=hgl.out
    cases gr with
    |true=>
     obtain⟨r0,r1,r2,r3⟩:=zab HI3.out.r
     have HS:=hid' (set4 HI3.out.r (.int .i64 kop) (.int .i64 kn) (.string ks) (.slice kp klen kc))
     have f0:∀ o,w3.frozen? ⟨w.heap.size+1,o,none⟩=false:=fun o=>Rw.frozen_of HI3.out.r
     have HF:=hid' (show Co.idle t=some k by rw[HD.out,HL.out,HR.out]; rfl)
     go_wp2_with fail
     obtain⟨hbx,hbl⟩:=HS.out
     generalize World.setCell _ _ _=w9 at *
     obtain⟨y0,y1,y2,y3⟩:=zab hbx
     refine bodyPost_ret (v:=.tuple #[.agg #[.int .i64 kop,.int .i64 kn,.string ks,.slice kp klen kc],.bool true]) (by simp[results,Tryz.results91,go_sem,y0,y1,y2,y3]) rfl ?_
     have hbb:=HI3.out.below.trans (hbl w.heap.size (by omega))
     exact⟨hbb,k,_,by rw[HF.out]; rfl,(kV.out.under hbb).old,fun x h=>by rw[HF.out] at h; cases h; rfl⟩
    |false=>
     obtain⟨r0,r1,r2,r3⟩:=zab HI3.out.r
     have HS:=hid' (set4 HI3.out.r (.int .i64 10) (.int .i64 n) (.string s) (.slice (some ⟨bl,off,none⟩) 2 c))
     have f0:∀ o,w3.frozen? ⟨w.heap.size+1,o,none⟩=false:=fun o=>Rw.frozen_of HI3.out.r
     have HF:=hid' (show Co.idle t=none by rw[HD.out,HL.out,HR.out]; rfl)
     go_wp2_with fail
     obtain⟨hbx,hbl⟩:=HS.out
     generalize World.setCell _ _ _=w9 at *
     obtain⟨y0,y1,y2,y3⟩:=zab hbx
     refine bodyPost_ret (v:=.tuple #[.agg #[.int .i64 10,.int .i64 n,.string s,.slice (some ⟨bl,off,none⟩) 2 c],.bool false]) (by simp[results,Tryz.results91,go_sem,y0,y1,y2,y3]) rfl ?_
     have hbb:=HI3.out.below.trans (hbl w.heap.size (by omega))
     exact⟨hbb,t,_,by rw[HF.out]; rfl,(HV.out.under hbb).old,fun x h=>by rw[HF.out] at h; cases h⟩
   by_cases h27:op=27
   ·subst h27
    obtain⟨gl,hgl⟩:∃ g,Hid ((kop == 23)=g):=⟨_,hid' rfl⟩
    obtain⟨gr,hgr⟩:∃ g,Hid ((jop == 23)=g):=⟨_,hid' rfl⟩
    have HL:=hid' (show Co.idleL 27 k j=gl by unfold Co.idleL; rw[HKO.out.1,hgl.out]; rfl)
    have HR:=hid' (show Co.idleR 27 k j=gr by unfold Co.idleR; rw[HJO.out.1,hgr.out]; rfl)
    have kl:=hgl.out
    have kr:=hgr.out
    go_wp2_with fail
    refine zam (Below wx.heap.size wx) (by kernel_rfl) (by kernel_rfl) (Below.refl _ _).drew ?_
    repeat (first
     |(refine zaq ?_ ?_
       ·rfl
       simp only[Act.put,List.setIfInBounds_toArray,List.set_cons_zero,List.set_cons_succ])
     |(apply zar
       ·rfl
       ·(intro w' hSw; obtain⟨d0,d1,d2,d3⟩:=zab ((hSw.block _ (zac HI.out.c)).trans HI.out.c); obtain⟨x0,x1,x2,x3⟩:=zab ((hSw.block _ (zac HI.out.a)).trans HI.out.a); obtain⟨z0,z1,z2,z3⟩:=zab ((hSw.block _ (zac HI.out.b)).trans HI.out.b); first|(go_simp; done)|(go_simp; with_reducible rfl))
       simp only[Act.put,List.setIfInBounds_toArray,List.set_cons_zero,List.set_cons_succ]))
    refine zas ?_
    intro w3 hS'
    have HI3:=hid' (HI.out.more hS')
    clear hS' d0 d1 d2 d3 x0 x1 x2 x3 z0 z1 z2 z3 kl kr
    obtain⟨d0,d1,d2,d3⟩:=zab HI3.out.c
    obtain⟨x0,x1,x2,x3⟩:=zab HI3.out.a
    obtain⟨z0,z1,z2,z3⟩:=zab HI3.out.b
    cases gl with
    |true=>
     obtain⟨r0,r1,r2,r3⟩:=zab HI3.out.r
     have HS:=hid' (set4 HI3.out.r (.int .i64 jop) (.int .i64 jn) (.string js) (.slice jp jlen jc))
     have f0:∀ o,w3.frozen? ⟨w.heap.size+1,o,none⟩=false:=fun o=>Rw.frozen_of HI3.out.r
     have HF:=hid' (show Co.idle t=some j by rw[HD.out,HL.out,HR.out]; rfl)
     go_wp2_with fail
     obtain⟨hbx,hbl⟩:=HS.out
     generalize World.setCell _ _ _=w9 at *
     obtain⟨y0,y1,y2,y3⟩:=zab hbx
     refine bodyPost_ret (v:=.tuple #[.agg #[.int .i64 jop,.int .i64 jn,.string js,.slice jp jlen jc],.bool true]) (by simp[results,Tryz.results91,go_sem,y0,y1,y2,y3]) rfl ?_
     have hbb:=HI3.out.below.trans (hbl w.heap.size (by omega))
     exact⟨hbb,j,_,by rw[HF.out]; rfl,(jV.out.under hbb).old,fun x h=>by rw[HF.out] at h; cases h; rfl⟩
    |false=>
     cases gr with
     |true=>
      obtain⟨r0,r1,r2,r3⟩:=zab HI3.out.r
      have HS:=hid' (set4 HI3.out.r (.int .i64 kop) (.int .i64 kn) (.string ks) (.slice kp klen kc))
      have f0:∀ o,w3.frozen? ⟨w.heap.size+1,o,none⟩=false:=fun o=>Rw.frozen_of HI3.out.r
      have HF:=hid' (show Co.idle t=some k by rw[HD.out,HL.out,HR.out]; rfl)
      go_wp2_with fail
      obtain⟨hbx,hbl⟩:=HS.out
      generalize World.setCell _ _ _=w9 at *
      obtain⟨y0,y1,y2,y3⟩:=zab hbx
      refine bodyPost_ret (v:=.tuple #[.agg #[.int .i64 kop,.int .i64 kn,.string ks,.slice kp klen kc],.bool true]) (by simp[results,Tryz.results91,go_sem,y0,y1,y2,y3]) rfl ?_
      have hbb:=HI3.out.below.trans (hbl w.heap.size (by omega))
      exact⟨hbb,k,_,by rw[HF.out]; rfl,(kV.out.under hbb).old,fun x h=>by rw[HF.out] at h; cases h; rfl⟩
     |false=>
      obtain⟨r0,r1,r2,r3⟩:=zab HI3.out.r
      have HS:=hid' (set4 HI3.out.r (.int .i64 27) (.int .i64 n) (.string s) (.slice (some ⟨bl,off,none⟩) 2 c))
      have f0:∀ o,w3.frozen? ⟨w.heap.size+1,o,none⟩=false:=fun o=>Rw.frozen_of HI3.out.r
      have HF:=hid' (show Co.idle t=none by rw[HD.out,HL.out,HR.out]; rfl)
      go_wp2_with fail
      obtain⟨hbx,hbl⟩:=HS.out
      generalize World.setCell _ _ _=w9 at *
      obtain⟨y0,y1,y2,y3⟩:=zab hbx
      refine bodyPost_ret (v:=.tuple #[.agg #[.int .i64 27,.int .i64 n,.string s,.slice (some ⟨bl,off,none⟩) 2 c],.bool false]) (by simp[results,Tryz.results91,go_sem,y0,y1,y2,y3]) rfl ?_
      have hbb:=HI3.out.below.trans (hbl w.heap.size (by omega))
      exact⟨hbb,t,_,by rw[HF.out]; rfl,(HV.out.under hbb).old,fun x h=>by rw[HF.out] at h; cases h⟩
   by_cases h26:op=26
   ·subst h26
    obtain⟨g1,hg1⟩:∃ g,Hid ((kop == 1 && kn == 1000000)=g):=⟨_,hid' rfl⟩
    obtain⟨g2,hg2⟩:∃ g,Hid ((kop == 1)=g):=⟨_,hid' rfl⟩
    obtain⟨g3,hg3⟩:∃ g,Hid ((jop == 23)=g):=⟨_,hid' rfl⟩
    have HL0:=hid' (show Co.idleL 26 k j=(g1 || (g2 && g3)) by unfold Co.idleL Co.isNum; rw[HKO.out.1,HKO.out.2,HJO.out.1,hg1.out,hg2.out,hg3.out]; rfl)
    have HR:=hid' (show Co.idleR 26 k j=false from rfl)
    go_wp2_with fail
    refine(zdu _ _ 1000000 _ _ _ _ _).mono ?_
    rintro e w3 ⟨rfl,b3⟩
    rw[hg1.out]
    have HI3:=hid' (HI.out.more b3)
    clear b3 d0 d1 d2 d3 x0 x1 x2 x3 z0 z1 z2 z3
    obtain⟨d0,d1,d2,d3⟩:=zab HI3.out.c
    obtain⟨x0,x1,x2,x3⟩:=zab HI3.out.a
    obtain⟨z0,z1,z2,z3⟩:=zab HI3.out.b
    have q2:=hg2.out
    have q3:=hg3.out
    cases g1 with
    |true=>
     have HL:=hid' (show Co.idleL 26 k j=true from HL0.out)
     obtain⟨r0,r1,r2,r3⟩:=zab HI3.out.r
     have HS:=hid' (set4 HI3.out.r (.int .i64 jop) (.int .i64 jn) (.string js) (.slice jp jlen jc))
     have f0:∀ o,w3.frozen? ⟨w.heap.size+1,o,none⟩=false:=fun o=>Rw.frozen_of HI3.out.r
     have HF:=hid' (show Co.idle t=some j by rw[HD.out,HL.out,HR.out]; rfl)
     go_wp2_with fail
     obtain⟨hbx,hbl⟩:=HS.out
     generalize World.setCell _ _ _=w9 at *
     obtain⟨y0,y1,y2,y3⟩:=zab hbx
     refine bodyPost_ret (v:=.tuple #[.agg #[.int .i64 jop,.int .i64 jn,.string js,.slice jp jlen jc],.bool true]) (by simp[results,Tryz.results91,go_sem,y0,y1,y2,y3]) rfl ?_
     have hbb:=HI3.out.below.trans (hbl w.heap.size (by omega))
     exact⟨hbb,j,_,by rw[HF.out]; rfl,(jV.out.under hbb).old,fun x h=>by rw[HF.out] at h; cases h; rfl⟩
    |false=>
     cases g2 with
     |true=>
      cases g3 with
      |true=>
       have HL:=hid' (show Co.idleL 26 k j=true from HL0.out)
       obtain⟨r0,r1,r2,r3⟩:=zab HI3.out.r
       have HS:=hid' (set4 HI3.out.r (.int .i64 jop) (.int .i64 jn) (.string js) (.slice jp jlen jc))
       have f0:∀ o,w3.frozen? ⟨w.heap.size+1,o,none⟩=false:=fun o=>Rw.frozen_of HI3.out.r
       have HF:=hid' (show Co.idle t=some j by rw[HD.out,HL.out,HR.out]; rfl)
       go_wp2_with fail
       obtain⟨hbx,hbl⟩:=HS.out
       generalize World.setCell _ _ _=w9 at *
       obtain⟨y0,y1,y2,y3⟩:=zab hbx
       refine bodyPost_ret (v:=.tuple #[.agg #[.int .i64 jop,.int .i64 jn,.string js,.slice jp jlen jc],.bool true]) (by simp[results,Tryz.results91,go_sem,y0,y1,y2,y3]) rfl ?_
       have hbb:=HI3.out.below.trans (hbl w.heap.size (by omega))
       exact⟨hbb,j,_,by rw[HF.out]; rfl,(jV.out.under hbb).old,fun x h=>by rw[HF.out] at h; cases h; rfl⟩
      |false=>
       have HL:=hid' (show Co.idleL 26 k j=false from HL0.out)
       obtain⟨r0,r1,r2,r3⟩:=zab HI3.out.r
       have HS:=hid' (set4 HI3.out.r (.int .i64 26) (.int .i64 n) (.string s) (.slice (some ⟨bl,off,none⟩) 2 c))
       have f0:∀ o,w3.frozen? ⟨w.heap.size+1,o,none⟩=false:=fun o=>Rw.frozen_of HI3.out.r
       have HF:=hid' (show Co.idle t=none by rw[HD.out,HL.out,HR.out]; rfl)
       go_wp2_with fail
       obtain⟨hbx,hbl⟩:=HS.out
       generalize World.setCell _ _ _=w9 at *
       obtain⟨y0,y1,y2,y3⟩:=zab hbx
       refine bodyPost_ret (v:=.tuple #[.agg #[.int .i64 26,.int .i64 n,.string s,.slice (some ⟨bl,off,none⟩) 2 c],.bool false]) (by simp[results,Tryz.results91,go_sem,y0,y1,y2,y3]) rfl ?_
       have hbb:=HI3.out.below.trans (hbl w.heap.size (by omega))
       exact⟨hbb,t,_,by rw[HF.out]; rfl,(HV.out.under hbb).old,fun x h=>by rw[HF.out] at h; cases h⟩
     |false=>
      have HL:=hid' (show Co.idleL 26 k j=false from HL0.out)
      obtain⟨r0,r1,r2,r3⟩:=zab HI3.out.r
      have HS:=hid' (set4 HI3.out.r (.int .i64 26) (.int .i64 n) (.string s) (.slice (some ⟨bl,off,none⟩) 2 c))
      have f0:∀ o,w3.frozen? ⟨w.heap.size+1,o,none⟩=false:=fun o=>Rw.frozen_of HI3.out.r
      have HF:=hid' (show Co.idle t=none by rw[HD.out,HL.out,HR.out]; rfl)
      go_wp2_with fail
      obtain⟨hbx,hbl⟩:=HS.out
      generalize World.setCell _ _ _=w9 at *
      obtain⟨y0,y1,y2,y3⟩:=zab hbx
      refine bodyPost_ret (v:=.tuple #[.agg #[.int .i64 26,.int .i64 n,.string s,.slice (some ⟨bl,off,none⟩) 2 c],.bool false]) (by simp[results,Tryz.results91,go_sem,y0,y1,y2,y3]) rfl ?_
      have hbb:=HI3.out.below.trans (hbl w.heap.size (by omega))
      exact⟨hbb,t,_,by rw[HF.out]; rfl,(HV.out.under hbb).old,fun x h=>by rw[HF.out] at h; cases h⟩
   have HL:=hid' (show Co.idleL op k j=false by unfold Co.idleL; simp[h7,h9,h15,h16,h8,h10,h27,h26])
   have HR:=hid' (show Co.idleR op k j=false by unfold Co.idleR; simp[h7,h9,h15,h16,h8,h10,h27,h26])
   have q7:(op == 7)=false:=by simpa using h7
   have q9:(op == 9)=false:=by simpa using h9
   have q15:(op == 15)=false:=by simpa using h15
   have q16:(op == 16)=false:=by simpa using h16
   have q8:(op == 8)=false:=by simpa using h8
   have q10:(op == 10)=false:=by simpa using h10
   have q27:(op == 27)=false:=by simpa using h27
   have q26:(op == 26)=false:=by simpa using h26
   clear h7 h9 h15 h16 h8 h10 h27 h26
   have HI3:=HI
   obtain⟨r0,r1,r2,r3⟩:=zab HI3.out.r
   have HS:=hid' (set4 HI3.out.r (.int .i64 op) (.int .i64 n) (.string s) (.slice (some ⟨bl,off,none⟩) 2 c))
   have f0:∀ o,wx.frozen? ⟨w.heap.size+1,o,none⟩=false:=fun o=>Rw.frozen_of HI3.out.r
   have HF:=hid' (show Co.idle t=none by rw[HD.out,HL.out,HR.out]; rfl)
   go_wp2_with fail
   obtain⟨hbx,hbl⟩:=HS.out
   generalize World.setCell _ _ _=w9 at *
   obtain⟨y0,y1,y2,y3⟩:=zab hbx
   refine bodyPost_ret (v:=.tuple #[.agg #[.int .i64 op,.int .i64 n,.string s,.slice (some ⟨bl,off,none⟩) 2 c],.bool false]) (by simp[results,Tryz.results91,go_sem,y0,y1,y2,y3]) rfl ?_
   have hbb:=HI3.out.below.trans (hbl w.heap.size (by omega))
   exact⟨hbb,t,_,by rw[HF.out]; rfl,(HV.out.under hbb).old,fun x h=>by rw[HF.out] at h; cases h⟩
 ·have HF:=hid' (show Co.idle t=none by unfold Co.idle; rw[HLN.out]; exact if_neg h2)
  have g2:((ln:Int) != 2)=true:=by simp; omega
  clear h2
  have HS:=hid' (set4 HR0.out (.int .i64 op) (.int .i64 n) (.string s) (.slice (some ⟨bl,off,none⟩) ln c))
  obtain⟨r0,r1,r2,r3⟩:=zab HR0.out
  have f0:∀ o,w1.frozen? ⟨w.heap.size+1,o,none⟩=false:=fun o=>Rw.frozen_of HR0.out
  go_wp2_with fail
  obtain⟨hbx,hbl⟩:=HS.out
  generalize World.setCell _ _ _=w9 at *
  obtain⟨y0,y1,y2,y3⟩:=zab hbx
  refine bodyPost_ret (v:=.tuple #[.agg #[.int .i64 op,.int .i64 n,.string s,.slice (some ⟨bl,off,none⟩) ln c],.bool false]) (by simp[results,Tryz.results91,go_sem,y0,y1,y2,y3]) rfl ?_
  have hbb:=HB0.out.trans (hbl w.heap.size (by omega))
  exact⟨hbb,t,_,by rw[HF.out]; rfl,(HV.out.under hbb).old,fun x h=>by rw[HF.out] at h; cases h⟩
end
section
open Go.RowKit
set_option maxRecDepth 100000
theorem zus {ok:Nat→Prop}{w9:World}{b:Nat}{k:Co.T}{n:Int}{kop kn:Int}{ks:ByteArray}{kp:Option Addr}{klen kc:Nat}(hb:w9.heap[b]? = some (.cells #[.int .i64 kop,.int .i64 kn,.string ks,.slice kp klen kc,.int .i64 23,.int .i64 0,.string ⟨#[]⟩,.slice none 0 0] 24 (0,0)))
  (hk:CoreIn ok w9.drew k (.agg #[.int .i64 kop,.int .i64 kn,.string ks,.slice kp klen kc])) (hn:I64 n) (hob:ok b):CoreIn ok w9.drew (.mk 30 n ⟨#[]⟩ [k,Co.leaf 23 0]) (.agg #[.int .i64 30,.int .i64 n,.string ⟨#[]⟩,.slice (some ⟨b,0,none⟩) 2 2]):=by
 have hl:=zac hb
 have hc:∀(i:Nat) (v:Value),(#[.int .i64 kop,.int .i64 kn,.string ks,.slice kp klen kc,.int .i64 23,.int .i64 0,.string ⟨#[]⟩,.slice none 0 0]:Array Value)[i]? = some v→w9.drew.cell? ⟨b,i,none⟩=some v:=by
  intro i v h
  show w9.cell? _=_
  unfold World.cell?
  simp only[hb]
  exact h
 refine CoreIn.close (ks:=[k,Co.leaf 23 0]) ⟨Nat.le_refl 2,by decide⟩ (by unfold I64; omega) hn (by decide) (fun i j hj=>?_)
 match i with
 |0=>
  obtain rfl:k=j:=by simpa using hj
  exact⟨_,⟨b,0,_,_,_,_,rfl,hob,rfl,hc 0 _ rfl,hc 1 _ rfl,hc 2 _ rfl,hc 3 _ rfl⟩,hk⟩
 |1=>
  obtain rfl:Co.leaf 23 0=j:=by simpa using hj
  exact⟨_,⟨b,0,_,_,_,_,rfl,hob,rfl,hc 4 _ rfl,hc 5 _ rfl,hc 6 _ rfl,hc 7 _ rfl⟩,zhg (by unfold I64; omega) (by unfold I64; omega)⟩
 |_+2=>simp at hj
theorem Co.never_kid {t:Co.T}(e:t.op=30)(hx:t.letter≠0):∃ j,t.ks[1]? = some j:=by
 obtain⟨h1, -, -⟩:=Co.open_kids (t:=t) (by rw[e]; decide) (by rw[e]; exact Co.want_30) hx
 obtain⟨k,j,hk1, -⟩:=Co.two_kids h1
 exact⟨j,by rw[hk1]; rfl⟩
set_option maxHeartbeats 4000000 in
theorem zsu (ok:Nat→Prop)(t:Co.T)(v:Value)(w:World)(hv:CoreIn ok w t v)(hx:t.letter≠0)(h0:0<t.ks.length):
  Calls Tryz.prog 95 #[v] w (zeh ok (Co.never t) w):=by
 obtain⟨op,n,s,p,ln,c,rfl,hop,hn,hs,hln⟩:=zbn hv
 have HV:=hid' hv
 obtain⟨bl,off,rfl,hrows⟩:=zfa hv h0
 have hb0:=heap_alloc_new w (.cells #[.int .i64 op,.int .i64 n,.string s,.slice (some ⟨bl,off,none⟩) ln c] 24)
 have hr0:=heap_alloc_new (w.alloc (.cells #[.int .i64 op,.int .i64 n,.string s,.slice (some ⟨bl,off,none⟩) ln c] 24)) (.cells #[.int .i64 0,.int .i64 0,.string ⟨#[]⟩,.slice none 0 0] 24)
 simp only[World.size_alloc] at hr0
 have hB0:Below w.heap.size w ((w.alloc (.cells #[.int .i64 op,.int .i64 n,.string s,.slice (some ⟨bl,off,none⟩) ln c] 24)).alloc (.cells #[.int .i64 0,.int .i64 0,.string ⟨#[]⟩,.slice none 0 0] 24)):=((Below.refl w.heap.size w).alloc (Nat.le_refl _) _).alloc (by simp) _
 have hc0:=(((Below.refl _ (w.alloc (.cells #[.int .i64 op,.int .i64 n,.string s,.slice (some ⟨bl,off,none⟩) ln c] 24))).alloc (Nat.le_refl _) (.cells #[.int .i64 0,.int .i64 0,.string ⟨#[]⟩,.slice none 0 0] 24)).block w.heap.size (by simp)).trans hb0
 have j0:(0:Int)<(ln:Int):=by omega
 have HOP:=hid' hop
 have HN:=hid' hn
 have HLN:=hid' hln
 have HROWS:=hid' hrows
 have HX:=hid' hx
 have H0:=hid' h0
 clear hb0 hop hn hs hln hrows hx h0 hv
 go_enter Tryz.func95,Tryz.ntmps95
 go_upto_region 1 with(fail)
 generalize World.alloc _ _=w1 at *
 have HB0:=hid' hB0
 have HR0:=hid' hr0
 have HC0:=hid' hc0
 obtain⟨k,kat⟩:∃ k,t.ks[0]? = some k:=⟨_,List.getElem?_eq_getElem H0.out⟩
 obtain⟨kop,kn,ks,kp,klen,kc,kH⟩:=HROWS.out 0 k kat
 have kK:=hid' (kH.below hB0)
 have kV:=hid' kH.val
 have kLT:=hid' kH.lt
 clear kH
 clear hr0 hB0
 obtain⟨d0,d1,d2,d3⟩:=zab HC0.out
 have KAT:=hid' kat
 clear hc0 kat
 have kx0:=kK.out.x0
 have kx1:=kK.out.x1
 have kx2:=kK.out.x2
 have kx3:=kK.out.x3
 simp only[Nat.zero_mul,Nat.add_zero,Nat.one_mul] at kx0 kx1 kx2 kx3
 have eK:t.kid 0=k:=by unfold Co.T.kid; rw[KAT.out]; rfl
 by_cases h:op=30
 ·subst h
  obtain⟨j,hj⟩:=Co.never_kid HOP.out HX.out
  have eJ:t.kid 1=j:=by unfold Co.T.kid; rw[hj]; rfl
  have hln2:2≤ln:=by rw[←HLN.out]; exact(List.getElem?_eq_some_iff.1 hj).1
  obtain⟨jop,jn,js,jp,jlen,jc,jH⟩:=HROWS.out 1 j hj
  have jK:=hid' (jH.below HB0.out)
  have jV:=hid' jH.val
  clear jH
  have jx0:=jK.out.x0
  have jx1:=jK.out.x1
  have jx2:=jK.out.x2
  have jx3:=jK.out.x3
  simp only[Nat.zero_mul,Nat.add_zero,Nat.one_mul] at jx0 jx1 jx2 jx3
  have HD:=hid' (show Co.never t=if(kop == 2 && kn == 0)=true∧jop≠23 then some (.mk 30 n ⟨#[]⟩ [k,Co.leaf 23 0]) else none by
   unfold Co.never Co.isBool
   rw[eK,eJ,HOP.out,HN.out,kK.out.op',kK.out.n',jK.out.op']
   by_cases h:(kop == 2 && kn == 0)=true∧jop≠23
   ·rw[if_pos h,if_pos ⟨rfl,h⟩]
   ·rw[if_neg h,if_neg (fun h'=>h h'.2)])
  have j1:(1:Int)<(ln:Int):=by omega
  clear eK eJ hj hln2
  cases hg:(kop == 2 && kn == 0) with
  |false=>
   have HF:=hid' (show Co.never t=none by rw[HD.out,hg]; simp)
   go_wp2_with fail
   refine(zch _ _ 0 _ _ _ _ _).mono ?_
   rintro e w2 ⟨rfl,b2⟩
   rw[hg]
   have HB2:=hid' (Below.more HB0.out b2)
   have HR2:=hid' ((b2.block _ (zac HR0.out)).trans HR0.out)
   have HC2:=hid' ((b2.block _ (zac HC0.out)).trans HC0.out)
   clear b2 d0 d1 d2 d3
   obtain⟨d0,d1,d2,d3⟩:=zab HC2.out
   have HS:=hid' (set4 HR2.out (.int .i64 30) (.int .i64 n) (.string s) (.slice (some ⟨bl,off,none⟩) ln c))
   obtain⟨r0,r1,r2,r3⟩:=zab HR2.out
   have f0:∀ o,w2.frozen? ⟨w.heap.size+1,o,none⟩=false:=fun o=>Rw.frozen_of HR2.out
   go_wp2_with fail
   obtain⟨hbx,hbl⟩:=HS.out
   generalize World.setCell _ _ _=w9 at *
   obtain⟨y0,y1,y2,y3⟩:=zab hbx
   refine bodyPost_ret (v:=.tuple #[.agg #[.int .i64 30,.int .i64 n,.string s,.slice (some ⟨bl,off,none⟩) ln c],.bool false]) (by simp[results,Tryz.results95,go_sem,y0,y1,y2,y3]) rfl ?_
   have hbb:=HB2.out.trans (hbl w.heap.size (by omega))
   exact⟨hbb,t,_,by rw[HF.out]; rfl,(HV.out.under hbb).old,fun x h=>by rw[HF.out] at h; cases h⟩
  |true=>
   go_wp2_with fail
   refine(zch _ _ 0 _ _ _ _ _).mono ?_
   rintro e w2 ⟨rfl,b2⟩
   rw[hg]
   have HB2:=hid' (Below.more HB0.out b2)
   have HR2:=hid' ((b2.block _ (zac HR0.out)).trans HR0.out)
   have HC2:=hid' ((b2.block _ (zac HC0.out)).trans HC0.out)
   have kK2:=hid' (kK.out.below b2)
   have jK2:=hid' (jK.out.below b2)
   clear b2 d0 d1 d2 d3 kx0 kx1 kx2 kx3 jx0 jx1 jx2 jx3
   obtain⟨d0,d1,d2,d3⟩:=zab HC2.out
   have kx0:=kK2.out.x0
   have kx1:=kK2.out.x1
   have kx2:=kK2.out.x2
   have kx3:=kK2.out.x3
   simp only[Nat.zero_mul,Nat.add_zero,Nat.one_mul] at kx0 kx1 kx2 kx3
   have jx0:=jK2.out.x0
   have jx1:=jK2.out.x1
   have jx2:=jK2.out.x2
   have jx3:=jK2.out.x3
   simp only[Nat.zero_mul,Nat.add_zero,Nat.one_mul] at jx0 jx1 jx2 jx3
   by_cases h23:jop=23
   ·have HF:=hid' (show Co.never t=none by rw[HD.out,hg]; simp[h23])
    subst h23
    have HS:=hid' (set4 HR2.out (.int .i64 30) (.int .i64 n) (.string s) (.slice (some ⟨bl,off,none⟩) ln c))
    obtain⟨r0,r1,r2,r3⟩:=zab HR2.out
    have f0:∀ o,w2.frozen? ⟨w.heap.size+1,o,none⟩=false:=fun o=>Rw.frozen_of HR2.out
    go_wp2_with fail
    obtain⟨hbx,hbl⟩:=HS.out
    generalize World.setCell _ _ _=w9 at *
    obtain⟨y0,y1,y2,y3⟩:=zab hbx
    refine bodyPost_ret (v:=.tuple #[.agg #[.int .i64 30,.int .i64 n,.string s,.slice (some ⟨bl,off,none⟩) ln c],.bool false]) (by simp[results,Tryz.results95,go_sem,y0,y1,y2,y3]) rfl ?_
    have hbb:=HB2.out.trans (hbl w.heap.size (by omega))
    exact⟨hbb,t,_,by rw[HF.out]; rfl,(HV.out.under hbb).old,fun x h=>by rw[HF.out] at h; cases h⟩
   ·have HF:=hid' (show Co.never t=some (.mk 30 n ⟨#[]⟩ [k,Co.leaf 23 0]) by rw[HD.out,hg]; simp[h23])
    have g23:(jop == 23)=false:=by simpa using h23
    clear h23
    go_wp2_with fail
    obtain⟨r0,r1,r2,r3⟩:=zab HR2.out
    have f0:∀ o,w2.frozen? ⟨w.heap.size+1,o,none⟩=false:=fun o=>Rw.frozen_of HR2.out
    have n0:=World.new_ne w2 _ d1
    have n1:=World.new_ne w2 _ d3
    have n2:=World.new_ne w2 _ kx0
    have n3:=World.new_ne w2 _ kx1
    have n4:=World.new_ne w2 _ kx2
    have n5:=World.new_ne w2 _ kx3
    have n6:=World.new_ne w2 _ r0
    have n7:bl≠w.heap.size+1:=by have:=kLT.out; omega
    have n8:w.heap.size+1≠bl:=fun e=>n7 e.symm
    have n9:(w.heap.size+1=bl)=False:=eq_false n8
    have j0n:0<ln:=by omega
    have HA:=fun (ob:Obj)=>((Below.refl w2.heap.size w2).alloc (Nat.le_refl _) ob).block (w.heap.size+1) (zac HR2.out) |>.trans HR2.out
    have f1:∀(ob:Obj) o,(w2.alloc ob).frozen? ⟨w.heap.size+1,o,none⟩=false:=fun ob o=>Rw.frozen_of (HA ob)
    have f2:∀(ob:Obj) o,(w2.alloc ob).drew.frozen? ⟨w.heap.size+1,o,none⟩=false:=fun ob o=>Rw.frozen_of (HA ob)
    have g0:∀(ob:Obj),(w2.alloc ob).cell? ⟨w.heap.size+1,0,none⟩=some (.int .i64 0):=fun ob=>(zab (HA ob)).1
    have g1:∀(ob:Obj),(w2.alloc ob).cell? ⟨w.heap.size+1,1,none⟩=some (.int .i64 0):=fun ob=>(zab (HA ob)).2.1
    have g2:∀(ob:Obj),(w2.alloc ob).cell? ⟨w.heap.size+1,2,none⟩=some (.string ⟨#[]⟩):=fun ob=>(zab (HA ob)).2.2.1
    have g3:∀(ob:Obj),(w2.alloc ob).cell? ⟨w.heap.size+1,3,none⟩=some (.slice none 0 0):=fun ob=>(zab (HA ob)).2.2.2
    have HHA:=hid' HA
    clear HA
    go_region_held3 (fun w'=>w'.cell? ⟨w.heap.size,1,none⟩=some (.int .i64 n)∧w'.cell? ⟨w.heap.size,3,none⟩=some (.slice (some ⟨bl,off,none⟩) ln c)∧w'.cell? ⟨bl,off,none⟩=some (.int .i64 kop)∧w'.cell? ⟨bl,off+1,none⟩=some (.int .i64 kn)∧w'.cell? ⟨bl,off+2,none⟩=some (.string ks)∧w'.cell? ⟨bl,off+3,none⟩=some (.slice kp klen kc))
     (first|exact⟨zcf d1,zcf d3,zcf kx0,zcf kx1,zcf kx2,zcf kx3⟩|go_keep|simp[*]) (fail)
    all_goals go_wp2_with fail
    clear f1 f2 g0 g1 g2 g3
    have HS:=set4 (HHA.out (.cells #[.int .i64 kop,.int .i64 kn,.string ks,.slice kp klen kc,.int .i64 23,.int .i64 0,.string ⟨#[]⟩,.slice none 0 0] 24)) (.int .i64 30) (.int .i64 n) (.string ⟨#[]⟩) (.slice (some ⟨w2.heap.size,0,none⟩) 2 2)
    have HG:=(zdx (w2.alloc (.cells #[.int .i64 kop,.int .i64 kn,.string ks,.slice kp klen kc,.int .i64 23,.int .i64 0,.string ⟨#[]⟩,.slice none 0 0] 24)) (w.heap.size+1) (.int .i64 30) (.int .i64 n) (.string ⟨#[]⟩) (.slice (some ⟨w2.heap.size,0,none⟩) 2 2)).block w2.heap.size (by simp) (fun e=>by simp at e; have:=zac HR2.out; omega)
    rw[heap_alloc_new] at HG
    have HAB:Below w2.heap.size w2 (w2.alloc (.cells #[.int .i64 kop,.int .i64 kn,.string ks,.slice kp klen kc,.int .i64 23,.int .i64 0,.string ⟨#[]⟩,.slice none 0 0] 24)):=(Below.refl _ _).alloc (Nat.le_refl _) _
    obtain⟨hbx,hbl⟩:=HS
    have hbb0:=HB2.out.trans ((HAB.mono HB2.out.size).trans (hbl w.heap.size (by omega)))
    clear hbl HAB HHA
    generalize World.setCell _ _ _=w9 at *
    have hbb:Below w.heap.size w w9.drew:=hbb0.drew
    obtain⟨y0,y1,y2,y3⟩:=zab hbx
    refine bodyPost_ret (v:=.tuple #[.agg #[.int .i64 30,.int .i64 n,.string ⟨#[]⟩,.slice (some ⟨w2.heap.size,0,none⟩) 2 2],.bool true]) (by simp[results,Tryz.results95,go_sem,y0,y1,y2,y3]) rfl ?_
    refine⟨hbb,_,_,by rw[HF.out]; rfl,?_,fun x h=>by rw[HF.out] at h; cases h; rfl⟩
    exact zus HG ((kV.out.under hbb).old) (by obtain⟨-, -, -, -, -,h, -⟩:=HV.out.open; rw[HN.out] at h; exact h) (.inr HB2.out.size)
 ·have HF:=hid' (show Co.never t=none by unfold Co.never; rw[HOP.out]; exact if_neg (fun h'=>h h'.1))
  have gk:(op != 30)=true:=by simpa using h
  clear h eK
  have HS:=hid' (set4 HR0.out (.int .i64 op) (.int .i64 n) (.string s) (.slice (some ⟨bl,off,none⟩) ln c))
  obtain⟨r0,r1,r2,r3⟩:=zab HR0.out
  have f0:∀ o,w1.frozen? ⟨w.heap.size+1,o,none⟩=false:=fun o=>Rw.frozen_of HR0.out
  go_wp2_with fail
  obtain⟨hbx,hbl⟩:=HS.out
  generalize World.setCell _ _ _=w9 at *
  obtain⟨y0,y1,y2,y3⟩:=zab hbx
  refine bodyPost_ret (v:=.tuple #[.agg #[.int .i64 op,.int .i64 n,.string s,.slice (some ⟨bl,off,none⟩) ln c],.bool false]) (by simp[results,Tryz.results95,go_sem,y0,y1,y2,y3]) rfl ?_
  have hbb:=HB0.out.trans (hbl w.heap.size (by omega))
  exact⟨hbb,t,_,by rw[HF.out]; rfl,(HV.out.under hbb).old,fun x h=>by rw[HF.out] at h; cases h⟩
end
section
open Go.RowKit
set_option maxRecDepth 100000
def zkn (i:Nat):Nat:=match i with
 |0=>89
 |1=>90
 |2=>91
 |3=>92
 |4=>93
 |5=>94
 |_=>95
def zel (i:Nat):Value:=.func (.func (zkn i)) #[] #[]
structure RuleAsk (t:Co.T):Prop where
 letter:t.letter≠0
 some':0<t.ks.length
theorem Co.kids_len {t:Co.T}(h:t.letter≠0):t.ks.length≤3:=by
 obtain⟨op,n,s,ks⟩:=t
 by_cases h22:op=22
 ·subst h22
  obtain⟨a,b,c,rfl, -⟩:=(Co.letter_22 h).1 rfl
  exact Nat.le_refl 3
 ·obtain⟨hw, -⟩:=Co.letter_inv rfl h h22
  have hl:ks.length=(ks.map Co.T.letter).length:=(List.length_map ..).symm
  show ks.length≤3
  rw[hl]
  generalize ks.map Co.T.letter=l at *
  generalize (Co.T.mk op n s ks).letter=x at *
  rcases Co.op_cases (Co.want_in hw) with rfl|rfl|rfl|rfl|rfl|rfl|rfl|rfl|rfl|rfl|rfl|rfl|rfl|rfl|rfl|rfl|rfl|rfl|rfl|rfl|rfl|rfl|rfl|rfl|rfl|rfl|rfl|rfl|rfl|rfl|rfl
  all_goals simp only[Co.want_1,Co.want_2,Co.want_3,Co.want_4,Co.want_5,Co.want_6,Co.want_7,Co.want_8,Co.want_9,Co.want_10,Co.want_11,Co.want_12,Co.want_13,Co.want_14,Co.want_15,Co.want_16,Co.want_17,Co.want_18,Co.want_19,Co.want_20,Co.want_21,Co.want_22,Co.want_23,Co.want_24,Co.want_25,Co.want_26,Co.want_27,Co.want_28,Co.want_29,Co.want_30,Co.want_31,Option.some.injEq,Prod.mk.injEq] at hw
  all_goals
   obtain⟨rfl, -⟩:=hw
   decide
theorem Co.n_range {t:Co.T}(h:t.letter≠0) : -1000000000000000≤t.n∧t.n≤1000000000000000:=by
 obtain⟨op,n,s,ks⟩:=t
 by_cases h22:op=22
 ·subst h22
  obtain⟨a,b,c,rfl, -, -, -, -,hf⟩:=(Co.letter_22 h).1 rfl
  exact Co.fields_range hf
 ·exact Co.fields_range (Co.letter_inv rfl h h22).2
theorem qce (ok:Nat→Prop)(i:Nat)(hi:i<7)(t:Co.T)(v:Value)(w:World)(hv:CoreIn ok w t v)(h:RuleAsk t):Calls Tryz.prog (zkn i) #[v] w (zeh ok (Co.rule i t) w):=by
 rcases(by omega:i=0∨i=1∨i=2∨i=3∨i=4∨i=5∨i=6) with rfl|rfl|rfl|rfl|rfl|rfl|rfl
 ·exact zuq ok t v w hv (Co.kids_len h.letter) (fun k hk=>Co.n_range (by obtain⟨o,n,s,ks⟩:=t; exact Co.kids_ne h.letter k hk))
 ·exact zss ok t v w hv h.letter h.some'
 ·exact zup ok t v w hv h.letter h.some'
 ·exact zpu ok t v w hv h.letter h.some'
 ·exact zsv ok t v w hv h.letter h.some'
 ·exact zrr ok t v w hv h.letter h.some'
 ·exact zsu ok t v w hv h.letter h.some'
def zry:Array Value:=#[.int .i64 1,zel 0,.int .i64 2,zel 1,.int .i64 2,zel 2,.int .i64 2,zel 3,.int .i64 2,zel 4,.int .i64 4,zel 5,.int .i64 4,zel 6]
def znc (W:World)(b:Nat):Prop:=W.heap[b]? = some (.cells zry 131 (0,0))
theorem zyg (w:World):Calls Tryz.prog 46 #[] w fun e w'=>e=.returned (.slice (some ⟨w.heap.size,0,none⟩) 7 7)∧Below w.heap.size w w'∧znc w' w.heap.size:=by
 go_enter Tryz.func46,Tryz.ntmps46
 go_wp2_with fail
 go_ret
 refine⟨rfl,(Below.refl _ _).alloc (Nat.le_refl _) _,heap_alloc_new w _⟩
theorem zvy (p:Int)(i:Nat)(hi:i<7)(hp:0≤p∧p≤15):(bits BinOp.and IntKind.i64 p (Co.bit i) == 0) = !Co.on p i:=by
 obtain⟨h1,h2⟩:=hp
 rcases(by omega:p=0∨p=1∨p=2∨p=3∨p=4∨p=5∨p=6∨p=7∨p=8∨p=9∨p=10∨p=11∨p=12∨p=13∨p=14∨p=15) with rfl|rfl|rfl|rfl|rfl|rfl|rfl|rfl|rfl|rfl|rfl|rfl|rfl|rfl|rfl|rfl
 all_goals
  rcases(by omega:i=0∨i=1∨i=2∨i=3∨i=4∨i=5∨i=6) with rfl|rfl|rfl|rfl|rfl|rfl|rfl
  all_goals kernel_rfl
set_option maxHeartbeats 4000000 in
theorem zvj (ok:Nat→Prop)(i:Nat)(hi:i<7)(pass p:Int)(hpass:pass=Co.bit i)(hp:0≤p∧p≤15)(t:Co.T)(v:Value)(pb:Nat)(w:World)(hok:∀ b,ok b→b<w.heap.size)(hv:CoreIn ok w t v)(h:RuleAsk t)(hb:w.cell? ⟨pb,0,none⟩=some (.int .i64 p)):
  Calls Tryz.prog 88 #[.agg #[.int .i64 pass,zel i],v,.pointer (some ⟨pb,0,none⟩)] w (zeh ok (Co.try1 p i t) w):=by
 obtain⟨op,n,s,q,ln,c,rfl,hop,hn,hs,hln⟩:=zbn hv
 have HV:=hid' hv
 have hx0:=(((Below.refl _ w).alloc (Nat.le_refl _) (.cells #[.int .i64 pass,zel i] 131)))
 have hx1:=hx0.alloc (by simp) (.cells #[.int .i64 op,.int .i64 n,.string s,.slice q ln c] 24)
 have hx2:=hx1.alloc (by simp; omega) (.cells #[.int .i64 0,.int .i64 0,.string ⟨#[]⟩,.slice none 0 0] 24)
 have y0:=heap_alloc_new w (.cells #[.int .i64 pass,zel i] 131)
 have y1:=heap_alloc_new (w.alloc (.cells #[.int .i64 pass,zel i] 131)) (.cells #[.int .i64 op,.int .i64 n,.string s,.slice q ln c] 24)
 have y2:=heap_alloc_new ((w.alloc (.cells #[.int .i64 pass,zel i] 131)).alloc (.cells #[.int .i64 op,.int .i64 n,.string s,.slice q ln c] 24)) (.cells #[.int .i64 0,.int .i64 0,.string ⟨#[]⟩,.slice none 0 0] 24)
 have z1:∀(W:World) (o:Obj) (k:Nat) (x:Obj),W.heap[k]? = some x→(W.alloc o).heap[k]? = some x:=fun W o k x h=>(((Below.refl W.heap.size W).alloc (Nat.le_refl _) o).block k (zac h)).trans h
 replace y0:=z1 _ (.cells #[.int .i64 0,.int .i64 0,.string ⟨#[]⟩,.slice none 0 0] 24) _ _ (z1 _ (.cells #[.int .i64 op,.int .i64 n,.string s,.slice q ln c] 24) _ _ y0)
 replace y1:=z1 _ (.cells #[.int .i64 0,.int .i64 0,.string ⟨#[]⟩,.slice none 0 0] 24) _ _ y1
 simp only[World.size_alloc] at y1 y2
 have hp1:=(hx2.cell (p:=⟨pb,0,none⟩) (World.block_lt_of_cell? w _ hb)).trans hb
 have HP:=hid' hpass
 have HPP:=hid' hp
 have HA:=hid' h
 clear hx0 hx1 z1 hpass hp h hop hn hs hln hv hb
 go_enter Tryz.func88,Tryz.ntmps88
 go_upto_region 1 with(fail)
 generalize World.alloc _ _=w1 at *
 have HY:=hid' (And.intro y0 (And.intro y1 y2))
 have HX:=hid' hx2
 have r0:w1.cell? ⟨w.heap.size,0,none⟩=some (.int .i64 pass):=by simp[World.cell?,y0]
 have r1:w1.cell? ⟨w.heap.size,1,none⟩=some (zel i):=by simp[World.cell?,y0]
 obtain⟨c0,c1,c2,c3⟩:=zab y1
 obtain⟨e0,e1,e2,e3⟩:=zab y2
 have f0:∀ o,w1.frozen? ⟨w.heap.size+1+1,o,none⟩=false:=fun o=>Rw.frozen_of HY.out.2.2
 have HS:=hid' (set4 HY.out.2.2 (.int .i64 op) (.int .i64 n) (.string s) (.slice q ln c))
 clear y0 y1 y2 hx2
 cases hon:Co.on p i with
 |false=>
  have g0:(bits BinOp.and IntKind.i64 p pass == 0)=true:=by rw[HP.out,zvy p i hi HPP.out,hon]; rfl
  have HF:=hid' (show Co.try1 p i t=none by unfold Co.try1; rw[hon]; rfl)
  go_wp2_with fail
  obtain⟨hbx,hbl⟩:=HS.out
  generalize World.setCell _ _ _=w9 at *
  obtain⟨y0,y1,y2,y3⟩:=zab hbx
  refine bodyPost_ret (v:=.tuple #[.agg #[.int .i64 op,.int .i64 n,.string s,.slice q ln c],.bool false]) (by simp[results,Tryz.results88,go_sem,y0,y1,y2,y3]) rfl ?_
  have hbb:=HX.out.trans (hbl w.heap.size (by omega))
  exact⟨hbb,t,_,by rw[HF.out]; rfl,(HV.out.under hbb).old,fun x h=>by rw[HF.out] at h; cases h⟩
 |true=>
  have g0:(bits BinOp.and IntKind.i64 p pass == 0)=false:=by rw[HP.out,zvy p i hi HPP.out,hon]; rfl
  have HF:=hid' (show Co.try1 p i t=Co.rule i t by unfold Co.try1; rw[hon]; rfl)
  have HRULE:=hid' (fun W (hb:Below w.heap.size w W)=>qce ok i hi t _ W (HV.out.under hb) HA.out)
  obtain⟨ro,hro⟩:∃ ro,Hid (Co.rule i t=ro):=⟨_,hid' rfl⟩
  rw[hro.out] at HRULE HF
  have HOK:=hid' hok
  clear HS hok
  rcases(by omega:i=0∨i=1∨i=2∨i=3∨i=4∨i=5∨i=6) with rfl|rfl|rfl|rfl|rfl|rfl|rfl
  all_goals
   simp only[zel,zkn] at r1
   go_wp2_with fail
   refine(HRULE.out _ HX.out).mono ?_
   rintro e w5 ⟨b5,u,vv,rfl,hu,hux⟩
   obtain⟨uop,un,us,up,ul,uc,rfl, -, -, -, -⟩:=zbn hu
   have HR5:=hid' ((b5.block _ (zac HY.out.2.2)).trans HY.out.2.2)
   have HB5:=hid' (HX.out.trans (b5.mono HX.out.size))
   have HU:=hid' hu
   have HUX:=hid' hux
   clear r0 r1 c0 c1 c2 c3 e0 e1 e2 e3 f0 hp1
   obtain⟨e0,e1,e2,e3⟩:=zab HR5.out
   have f0:∀ o,w5.frozen? ⟨w.heap.size+1+1,o,none⟩=false:=fun o=>Rw.frozen_of HR5.out
   have HS:=hid' (And.intro (set4 HR5.out (.int .i64 uop) (.int .i64 un) (.string us) (.slice up ul uc)) (zdx w5 (w.heap.size+1+1) (.int .i64 uop) (.int .i64 un) (.string us) (.slice up ul uc)))
   clear b5 hu hux
   obtain⟨bo,hbo⟩:∃ bo,Hid (ro.isSome=bo):=⟨_,hid' rfl⟩
   rw[hbo.out]
   go_wp2_with fail
   obtain⟨⟨hbx,hbl⟩,hg⟩:=HS.out
   generalize World.setCell _ _ _=w9 at *
   obtain⟨y0,y1,y2,y3⟩:=zab hbx
   refine bodyPost_ret (v:=.tuple #[.agg #[.int .i64 uop,.int .i64 un,.string us,.slice up ul uc],.bool bo]) (by simp[results,Tryz.results88,go_sem,y0,y1,y2,y3]) rfl ?_
   refine⟨HB5.out.trans (hbl w.heap.size (by omega)),u,_,by rw[HF.out,hbo.out],HU.out.keep (fun b hb hl=>⟨?_,hg.block b hl (fun e=>?_)⟩),fun x h=>HUX.out x (by rw[←HF.out]; exact h)⟩
   ·exact hb.imp id (fun h=>Nat.le_trans HX.out.size h)
   ·obtain rfl:w.heap.size+1+1=b:=by simpa using e.symm
    rcases hb with hb|hb
    ·have:=HOK.out _ hb; omega
    ·have:=zac HY.out.2.2; omega
end
section
open Go.RowKit
set_option maxRecDepth 100000
attribute [local go_sem] zbj
theorem qcf (i:Nat)(hi:i<7):zry[i * 2]? = some (.int .i64 (Co.bit i))∧zry[i * 2+1]? = some (zel i):=by
 rcases(by omega:i=0∨i=1∨i=2∨i=3∨i=4∨i=5∨i=6) with rfl|rfl|rfl|rfl|rfl|rfl|rfl
 all_goals exact⟨rfl,rfl⟩
structure FirstIt (w:World)(C:Array Value)(p:Int)(t:Co.T)(F:Option Co.T)(i:Nat)(wr:World):Prop where
 below:Below w.heap.size w wr
 c:wr.heap[w.heap.size]? = some (.cells C 24 (0,0))
 r:wr.heap[w.heap.size+1]? = some (.cells #[.int .i64 0,.int .i64 0,.string ⟨#[]⟩,.slice none 0 0] 24 (0,0))
 rest:Co.fitFrom p t (7 - i) i=F
theorem FirstIt.more {w:World}{C:Array Value}{p:Int}{t:Co.T}{F:Option Co.T}{i j:Nat}{W W':World}(h:FirstIt w C p t F i W)(hb:Below W.heap.size W W')(hr:Co.fitFrom p t (7 - j) j=F):FirstIt w C p t F j W':=
 ⟨h.below.trans (hb.mono h.below.size),(hb.block _ (zac h.c)).trans h.c,(hb.block _ (zac h.r)).trans h.r,hr⟩
set_option maxHeartbeats 4000000 in
theorem zzv (ok:Nat→Prop)(t:Co.T)(v:Value)(rb pb:Nat)(p:Int)(w:World)(hok:∀ b,ok b→b<w.heap.size)(hv:CoreIn ok w t v)(h:RuleAsk t)(hp:0≤p∧p≤15)(hb:w.cell? ⟨pb,0,none⟩=some (.int .i64 p))(hr:znc w rb):
  Calls Tryz.prog 87 #[.slice (some ⟨rb,0,none⟩) 7 7,v,.func (.func 88) #[] #[.pointer (some ⟨pb,0,none⟩)]] w (zeh ok (Co.fit p t) w):=by
 obtain⟨op,n,s,q,ln,c,rfl,hop,hn,hs,hln⟩:=zbn hv
 have HV:=hid' hv
 obtain⟨F,hF⟩:∃ F,Hid (Co.fit p t=F):=⟨_,hid' rfl⟩
 rw[hF.out]
 have hx0:=((Below.refl _ w).alloc (Nat.le_refl _) (.cells #[.int .i64 op,.int .i64 n,.string s,.slice q ln c] 24))
 have hx1:=hx0.alloc (by simp) (.cells #[.int .i64 0,.int .i64 0,.string ⟨#[]⟩,.slice none 0 0] 24)
 have y0:=heap_alloc_new w (.cells #[.int .i64 op,.int .i64 n,.string s,.slice q ln c] 24)
 have y1:=heap_alloc_new (w.alloc (.cells #[.int .i64 op,.int .i64 n,.string s,.slice q ln c] 24)) (.cells #[.int .i64 0,.int .i64 0,.string ⟨#[]⟩,.slice none 0 0] 24)
 have z1:∀(W:World) (o:Obj) (k:Nat) (x:Obj),W.heap[k]? = some x→(W.alloc o).heap[k]? = some x:=fun W o k x h=>(((Below.refl W.heap.size W).alloc (Nat.le_refl _) o).block k (zac h)).trans h
 replace y0:=z1 _ (.cells #[.int .i64 0,.int .i64 0,.string ⟨#[]⟩,.slice none 0 0] 24) _ _ y0
 simp only[World.size_alloc] at y1
 have HI:=hid' (FirstIt.mk (p:=p) (t:=t) (F:=F) (i:=0) hx1 y0 y1 hF.out)
 have HOK:=hid' hok
 have HA:=hid' h
 have HP:=hid' hp
 have HPB:=hid' hb
 have HRL:=hid' hr
 clear hx0 hx1 y0 y1 z1 hok h hp hb hr hop hn hs hln hv
 go_enter Tryz.func87,Tryz.ntmps87
 go_upto_region 1 with(fail)
 generalize World.alloc _ _=w1 at *
 go_wp2_with fail
 go_loopw [15] (fun iv wr=>∃(i:Nat),iv=.int .i64 (i:Int)∧i≤7∧Hid (FirstIt w #[.int .i64 op,.int .i64 n,.string s,.slice q ln c] p t F i wr)) (fun iv _=>7 - (intOf iv).toNat)
 case atStart=>exact⟨0,rfl,by omega,HI⟩
 case round=>
  obtain⟨i,rfl,hi,HJ⟩:=hrel
  by_cases hik:i<7
  ·have g0:decide ((i:Int)<7)=true:=by simp; omega
   have j1:(0:Int)≤(i:Int):=by omega
   have j2:(i:Int)<7:=by omega
   have hiw:IntKind.i64.wrap ((i:Int)+1)=(i:Int)+1:=IntWalk.i64_in _ (by omega)
   obtain⟨q0,q1⟩:=qcf i hik
   have HR1:wr.heap[rb]? = some (.cells zry 131 (0,0)):=(HJ.out.below.block rb (zac HRL.out)).trans HRL.out
   have r0:wr.cell? ⟨rb,i * 2,none⟩=some (.int .i64 (Co.bit i)):=by unfold World.cell?; simp only[HR1]; exact q0
   have r1:wr.cell? ⟨rb,i * 2+1,none⟩=some (.func (.func (zkn i)) #[] #[]):=by unfold World.cell?; simp only[HR1]; exact q1
   obtain⟨c0,c1,c2,c3⟩:=zab HJ.out.c
   clear q0 q1 HR1
   go_upto_region 4 with(fail)
   have hbn:=(Below.refl wr.heap.size wr).alloc (Nat.le_refl _) (.cells #[.int .i64 (Co.bit i),.func (.func (zkn i)) #[] #[]] 131)
   have hnb:=heap_alloc_new wr (.cells #[.int .i64 (Co.bit i),.func (.func (zkn i)) #[] #[]] 131)
   obtain⟨kb,hkb⟩:∃ kb,kb=wr.heap.size:=⟨_,rfl⟩
   rw[←hkb] at hnb ⊢
   have HKB:=hid' hkb
   have HRB:=hid' hnb
   have HC2:=hid' ((hbn.block _ (zac HJ.out.c)).trans HJ.out.c)
   have HR2:=hid' ((hbn.block _ (zac HJ.out.r)).trans HJ.out.r)
   have HB2:=hid' (HJ.out.below.trans (hbn.mono HJ.out.below.size))
   have HBN:=hid' hbn
   clear hbn hnb hkb r0 r1 c0 c1 c2 c3
   generalize World.alloc wr _=w2 at *
   have r0:w2.cell? ⟨kb,0,none⟩=some (.int .i64 (Co.bit i)):=by simp[World.cell?,HRB.out]
   have r1:w2.cell? ⟨kb,1,none⟩=some (.func (.func (zkn i)) #[] #[]):=by simp[World.cell?,HRB.out]
   obtain⟨c0,c1,c2,c3⟩:=zab HC2.out
   go_wp2_with fail
   have hpb2:=(HB2.out.cell (p:=⟨pb,0,none⟩) (World.block_lt_of_cell? w _ HPB.out)).trans HPB.out
   refine(zvj ok i hik _ p rfl HP.out t _ pb w2 (fun b h=>Nat.lt_of_lt_of_le (HOK.out b h) HB2.out.size) (HV.out.under HB2.out) HA.out hpb2).mono ?_
   rintro e w5 ⟨b5,u,vv,rfl,hu,hux⟩
   obtain⟨uop,un,us,up,ul,uc,rfl, -, -, -, -⟩:=zbn hu
   have hstep:Co.fitFrom p t (7 - i) i=(match Co.try1 p i t with|some u=>some u|none=>Co.fitFrom p t (7 - (i+1)) (i+1)):=by
    rw[show 7 - i=(7 - (i+1))+1 by omega,Co.fitFrom]
    cases Co.try1 p i t<;>rfl
   rw[HJ.out.rest] at hstep
   have HSTEP:=hid' hstep
   have HJ5:=hid' (And.intro b5 (And.intro hu hux))
   have hr5:=(b5.block _ (zac HR2.out)).trans HR2.out
   have HR5:=hid' hr5
   have HC5:=hid' ((b5.block _ (zac HC2.out)).trans HC2.out)
   clear b5 hu hux hpb2 hstep hr5 r0 r1 c0 c1 c2 c3
   obtain⟨bo,hbo⟩:∃ bo,Hid ((Co.try1 p i t).isSome=bo):=⟨_,hid' rfl⟩
   rw[hbo.out]
   have hba:=(Below.refl w5.heap.size w5).alloc (Nat.le_refl _) (.cells #[.int .i64 uop,.int .i64 un,.string us,.slice up ul uc] 24)
   have HBA:=hid' hba
   have HR6:=hid' ((hba.block _ (zac HR5.out)).trans HR5.out)
   have HC6:=hid' ((hba.block _ (zac HC5.out)).trans HC5.out)
   have HN6:=hid' (heap_alloc_new w5 (.cells #[.int .i64 uop,.int .i64 un,.string us,.slice up ul uc] 24))
   clear hba
   cases bo with
   |true=>
    obtain⟨x,hx⟩:∃ x,Co.try1 p i t=some x:=Option.isSome_iff_exists.1 hbo.out
    have HFX:=hid' (show F=some x by rw[HSTEP.out,hx])
    obtain rfl:u=x:=HJ5.out.2.2 x hx
    have HS:=hid' (And.intro (set4 HR6.out (.int .i64 uop) (.int .i64 un) (.string us) (.slice up ul uc)) (zdx (w5.alloc (.cells #[.int .i64 uop,.int .i64 un,.string us,.slice up ul uc] 24)) (w.heap.size+1) (.int .i64 uop) (.int .i64 un) (.string us) (.slice up ul uc)))
    obtain⟨e0,e1,e2,e3⟩:=zab HR6.out
    obtain⟨n0,n1,n2,n3⟩:=zab HN6.out
    have f0:∀ o,(w5.alloc (.cells #[.int .i64 uop,.int .i64 un,.string us,.slice up ul uc] 24)).frozen? ⟨w.heap.size+1,o,none⟩=false:=fun o=>Rw.frozen_of HR6.out
    clear hx
    go_wp2_with fail
    obtain⟨⟨hbx,hbl⟩,hg⟩:=HS.out
    generalize World.setCell _ _ _=w9 at *
    obtain⟨y0,y1,y2,y3⟩:=zab hbx
    refine bodyPost_ret (v:=.tuple #[.agg #[.int .i64 uop,.int .i64 un,.string us,.slice up ul uc],.bool true]) (by simp[results,Tryz.results87,go_sem,y0,y1,y2,y3]) rfl ?_
    refine⟨((HB2.out.trans (HJ5.out.1.mono HB2.out.size)).trans (HBA.out.mono (Nat.le_trans HB2.out.size HJ5.out.1.size))).trans (hbl w.heap.size (by omega)),u,_,by rw[HFX.out]; rfl,HJ5.out.2.1.keep (fun b hb hl=>⟨?_,(hg.block b ?_ (fun e=>?_)).trans (HBA.out.block b hl)⟩),fun x h=>by rw[HFX.out] at h; cases h; rfl⟩
    ·exact hb.imp id (fun h=>Nat.le_trans HB2.out.size h)
    ·exact Nat.lt_of_lt_of_le hl HBA.out.size
    ·obtain rfl:w.heap.size+1=b:=by simpa using e.symm
     rcases hb with hb|hb
     ·have:=HOK.out _ hb; omega
     ·have:=zac HR2.out; omega
   |false=>
    have hx:Co.try1 p i t=none:=by simpa using hbo.out
    have HNX:=hid' (HJ.out.more (HBN.out.trans ((HJ5.out.1.trans (HBA.out.mono HJ5.out.1.size)).mono HBN.out.size)) (j:=i+1) (by rw[HSTEP.out,hx]))
    clear hx
    go_wp2_with fail
    go_roundw
    case rel=>exact⟨i+1,by go_num,by omega,HNX⟩
    case measure=>simp only[intOf]; omega
  ·obtain rfl:i=7:=by omega
   have HFN:=hid' (show F=none by rw[←HJ.out.rest]; rfl)
   have hba:=(Below.refl wr.heap.size wr).alloc (Nat.le_refl _) (.cells #[.int .i64 0,.int .i64 0,.string ⟨#[]⟩,.slice none 0 0] 24)
   have HBA:=hid' hba
   have HR6:=hid' ((hba.block _ (zac HJ.out.r)).trans HJ.out.r)
   have HS:=hid' (set4 HR6.out (.int .i64 0) (.int .i64 0) (.string ⟨#[]⟩) (.slice none 0 0))
   obtain⟨e0,e1,e2,e3⟩:=zab HR6.out
   have f0:∀ o,(wr.alloc (.cells #[.int .i64 0,.int .i64 0,.string ⟨#[]⟩,.slice none 0 0] 24)).frozen? ⟨w.heap.size+1,o,none⟩=false:=fun o=>Rw.frozen_of HR6.out
   clear hba hik
   go_wp2_with fail
   obtain⟨hbx,hbl⟩:=HS.out
   generalize World.setCell _ _ _=w9 at *
   obtain⟨y0,y1,y2,y3⟩:=zab hbx
   refine bodyPost_ret (v:=.tuple #[.agg #[.int .i64 0,.int .i64 0,.string ⟨#[]⟩,.slice none 0 0],.bool false]) (by simp[results,Tryz.results87,go_sem,y0,y1,y2,y3]) rfl ?_
   exact⟨(HJ.out.below.trans (HBA.out.mono HJ.out.below.size)).trans (hbl w.heap.size (by omega)),Co.leaf 0 0,_,by rw[HFN.out]; rfl,zhg (by unfold I64; omega) (by unfold I64; omega),fun x h=>by rw[HFN.out] at h; cases h⟩
end
end Go.Proofs.YtanlmbbalamgkaaGreatDoor
