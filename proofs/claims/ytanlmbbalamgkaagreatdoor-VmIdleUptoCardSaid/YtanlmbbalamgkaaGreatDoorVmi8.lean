/- Proved: lemmas and contracts of the functions that the law reaches, part 8 of 36: Bytes, GenMem, Core, CoreIn. Conditions: as each states. -/
import Derived.WalkLawsBesides
import Derived.Lib.BufferRead
import Derived.Laws.AppendOwnNone
import Derived.Deep.OwnRows
import Derived.Test.YtanlmbbalamgkaaGreatDoorVmi5
namespace Go.Proofs.YtanlmbbalamgkaaGreatDoor
set_option linter.unusedVariables false
set_option linter.unusedSimpArgs false
section
open Go.RowKit
theorem zac {w:World}{b:Nat}{o:Obj}(h:w.heap[b]? = some o):b<w.heap.size:=by
 rcases Nat.lt_or_ge b w.heap.size with h'|h'
 ·exact h'
 ·rw[Array.getElem?_eq_none h'] at h
  simp at h
end
section
open Go.RowKit
open Gen
def I64 (n:Int):Prop:= -9223372036854775808≤n∧n≤9223372036854775807
structure WtFits (w:Gen.Wt):Prop where
 entry:I64 w.entry
 day:I64 w.day
 label:w.label.size≤2000000
 first:I64 w.first
 second:I64 w.second
structure IxFits (x:Gen.Ix):Prop where
 op:I64 x.op
 a:I64 x.a
 b:I64 x.b
 c:I64 x.c
 n:I64 x.n
 s:x.s.size≤2000000
 to:I64 x.to
def WaitsAt (W:World)(v:Value)(l:List Gen.Wt):Prop:=∃ p c,v=.slice p l.length c∧(l.length≤c∧c≤maxLen)∧∀(i:Nat) w,l[i]? = some w→∃ b off,p=some ⟨b,off,none⟩∧b<W.heap.size ∧
 (W.cell? ⟨b,off+i * 5,none⟩=some (.int .i64 w.entry)∧W.cell? ⟨b,off+i * 5+1,none⟩=some (.int .i64 w.day)∧W.cell? ⟨b,off+i * 5+2,none⟩=some (.string w.label)∧W.cell? ⟨b,off+i * 5+3,none⟩=some (.int .i64 w.first)∧W.cell? ⟨b,off+i * 5+4,none⟩=some (.int .i64 w.second))∧WtFits w
def InsAt (W:World)(v:Value)(l:List Gen.Ix):Prop:=∃ p c,v=.slice p l.length c∧(l.length≤c∧c≤maxLen)∧∀(i:Nat) x,l[i]? = some x→∃ b off,p=some ⟨b,off,none⟩∧b<W.heap.size ∧
 (W.cell? ⟨b,off+i * 7,none⟩=some (.int .i64 x.op)∧W.cell? ⟨b,off+i * 7+1,none⟩=some (.int .i64 x.a)∧W.cell? ⟨b,off+i * 7+2,none⟩=some (.int .i64 x.b)∧W.cell? ⟨b,off+i * 7+3,none⟩=some (.int .i64 x.c)∧W.cell? ⟨b,off+i * 7+4,none⟩=some (.int .i64 x.n)∧W.cell? ⟨b,off+i * 7+5,none⟩=some (.string x.s)∧W.cell? ⟨b,off+i * 7+6,none⟩=some (.int .i64 x.to))∧IxFits x
def CdAt (W:World)(v:Value)(c:Gen.Cd):Prop:=∃ vw vi,v=.agg #[.int .i64 c.regs,vw,vi]∧WaitsAt W vw c.waits∧InsAt W vi c.ins∧I64 c.regs
theorem zbf {W W':World}{b j:Nat}{v:Value}(B:Below W.heap.size W W')(hb:b<W.heap.size)(h:W.cell? ⟨b,j,none⟩=some v):W'.cell? ⟨b,j,none⟩=some v:=(B.cell (p:=⟨b,j,none⟩) hb).trans h
theorem WaitsAt.below {W W':World}{v:Value}{l:List Gen.Wt}(h:WaitsAt W v l)(B:Below W.heap.size W W'):WaitsAt W' v l:=by
 obtain⟨p,c,e,hl,h⟩:=h
 refine⟨p,c,e,hl,fun i w hw=>?_⟩
 obtain⟨b,off,e,hb,⟨h0,h1,h2,h3,h4⟩,hf⟩:=h i w hw
 exact⟨b,off,e,Nat.lt_of_lt_of_le hb B.size,⟨zbf B hb h0,zbf B hb h1,zbf B hb h2,zbf B hb h3,zbf B hb h4⟩,hf⟩
theorem InsAt.below {W W':World}{v:Value}{l:List Gen.Ix}(h:InsAt W v l)(B:Below W.heap.size W W'):InsAt W' v l:=by
 obtain⟨p,c,e,hl,h⟩:=h
 refine⟨p,c,e,hl,fun i w hw=>?_⟩
 obtain⟨b,off,e,hb,⟨h0,h1,h2,h3,h4,h5,h6⟩,hf⟩:=h i w hw
 exact⟨b,off,e,Nat.lt_of_lt_of_le hb B.size,⟨zbf B hb h0,zbf B hb h1,zbf B hb h2,zbf B hb h3,zbf B hb h4,zbf B hb h5,zbf B hb h6⟩,hf⟩
theorem CdAt.below {W W':World}{v:Value}{c:Gen.Cd}(h:CdAt W v c)(B:Below W.heap.size W W'):CdAt W' v c:=by
 obtain⟨vw,vi,e,h1,h2,h3⟩:=h
 exact⟨vw,vi,e,h1.below B,h2.below B,h3⟩
end
section
open Go.RowKit
namespace Co
inductive T where
 |mk (op n:Int) (s:ByteArray) (ks:List T)
instance:Inhabited T:=⟨.mk 0 0 ⟨#[]⟩ []⟩
def T.op:T→Int
 | .mk o _ _ _=>o
def T.n:T→Int
 | .mk _ n _ _=>n
def T.s:T→ByteArray
 | .mk _ _ s _=>s
def T.ks:T→List T
 | .mk _ _ _ ks=>ks
theorem T.ind {P:T→Prop}(h:∀ o n s ks,(∀ k∈ks,P k)→P (.mk o n s ks))(t:T):P t:=
 T.rec (motive_1:=P) (motive_2:=fun ks=>∀ k∈ks,P k) (fun o n s ks ih=>h o n s ks ih) (fun k hk=>by cases hk)
  (fun a r ha hr k hk=>(List.mem_cons.1 hk).elim (fun e=>e▸ha) (fun h=>hr k h)) t
mutual
def T.size:T→Nat
 | .mk _ _ _ ks=>1+sizes ks
def sizes:List T→Nat
 | []=>0
 |k::r=>k.size+sizes r
end
mutual
def T.all:T→Int→List (Int × T)
 | .mk o n s ks,d=>(d,.mk o n s ks)::alls ks (d+1)
def alls:List T→Int→List (Int × T)
 | [],_=>[]
 |k::r,d=>k.all d++alls r d
end
theorem sizes_mem {ks:List T}{k:T}(h:k∈ks):k.size≤sizes ks:=by
 induction ks with
 |nil=>cases h
 |cons a r ih=>
  rw[sizes]
  rcases List.mem_cons.1 h with rfl|h
  ·omega
  ·have:=ih h; omega
theorem size_pos (t:T):1≤t.size:=by cases t; rw[T.size]; omega
theorem sizes_len (ks:List T):ks.length≤sizes ks:=by
 induction ks with
 |nil=>exact Nat.zero_le _
 |cons a r ih=>have:=size_pos a; rw[sizes,List.length_cons]; omega
theorem all_length (t:T):∀ d,(t.all d).length=t.size:=by
 refine T.ind (P:=fun t=>∀ d,(t.all d).length=t.size) (fun o n s ks ih d=>?_) t
 have:∀(l:List T),(∀ k∈l,∀ d,(k.all d).length=k.size)→∀ d,(alls l d).length=sizes l:=by
  intro l
  induction l with
  |nil=>intro _ d; rfl
  |cons a r ih2=>
   intro h d
   rw[alls,sizes,List.length_append,h a (List.mem_cons_self ..) d,ih2 (fun k hk=>h k (List.mem_cons_of_mem _ hk)) d]
 rw[T.all,T.size,List.length_cons,this ks ih]
 omega
end Co
def RowAt (B:Nat)(W:World)(p:Option Addr)(i:Nat)(v:Value):Prop:=∃ b off x y z u,p=some ⟨b,off,none⟩∧b<B∧v=.agg #[x,y,z,u] ∧
 W.cell? ⟨b,off+i * 4,none⟩=some x∧W.cell? ⟨b,off+i * 4+1,none⟩=some y∧W.cell? ⟨b,off+i * 4+2,none⟩=some z∧W.cell? ⟨b,off+i * 4+3,none⟩=some u
inductive CoreAt (B:Nat)(W:World):Co.T→Value→Prop
 |mk {op n:Int} {s:ByteArray} {ks:List Co.T} {p:Option Addr} {c:Nat} (vs:Nat→Value) (hc:ks.length≤c∧c≤maxLen) (ho:I64 op) (hn:I64 n) (hs:s.size≤2000000)
   (hr:∀ i k,ks[i]? = some k→RowAt B W p i (vs i)) (hk:∀ i k,ks[i]? = some k→CoreAt B W k (vs i)):CoreAt B W (.mk op n s ks) (.agg #[.int .i64 op,.int .i64 n,.string s,.slice p ks.length c])
theorem RowAt.kept {B B':Nat}{W W':World}{p:Option Addr}{i:Nat}{v:Value}(h:RowAt B W p i v)(hb:Below B W W')(hB:B≤B'):RowAt B' W' p i v:=by
 obtain⟨b,off,x,y,z,u,e,hl,hv,h0,h1,h2,h3⟩:=h
 exact⟨b,off,x,y,z,u,e,Nat.lt_of_lt_of_le hl hB,hv,(hb.cell (p:=⟨b,_,none⟩) hl).trans h0,(hb.cell (p:=⟨b,_,none⟩) hl).trans h1,(hb.cell (p:=⟨b,_,none⟩) hl).trans h2,(hb.cell (p:=⟨b,_,none⟩) hl).trans h3⟩
theorem CoreAt.kept {B B':Nat}{W W':World}{t:Co.T}{v:Value}(h:CoreAt B W t v)(hb:Below B W W')(hB:B≤B'):CoreAt B' W' t v:=by
 induction h with
 |mk vs hc ho hn hs hr hk ih=>exact .mk vs hc ho hn hs (fun i k e=>(hr i k e).kept hb hB) (fun i k e=>ih i k e)
theorem CoreAt.open {B:Nat}{W:World}{t:Co.T}{v:Value}(h:CoreAt B W t v):∃ p c,v=.agg #[.int .i64 t.op,.int .i64 t.n,.string t.s,.slice p t.ks.length c]∧(t.ks.length≤c∧c≤maxLen)∧I64 t.op∧I64 t.n∧t.s.size≤2000000 ∧
  ∀ i k,t.ks[i]? = some k→∃ vk,RowAt B W p i vk∧CoreAt B W k vk:=by
 cases h with
 |mk vs hc ho hn hs hr hk=>exact⟨_,_,rfl,hc,ho,hn,hs,fun i k e=>⟨vs i,hr i k e,hk i k e⟩⟩
open Classical in
theorem CoreAt.close {B:Nat}{W:World}{op n:Int}{s:ByteArray}{ks:List Co.T}{p:Option Addr}{c:Nat}(hc:ks.length≤c∧c≤maxLen)(ho:I64 op)(hn:I64 n)(hs:s.size≤2000000)
  (h:∀ i k,ks[i]? = some k→∃ vk,RowAt B W p i vk∧CoreAt B W k vk):CoreAt B W (.mk op n s ks) (.agg #[.int .i64 op,.int .i64 n,.string s,.slice p ks.length c]):=by
 have hv:∀ i,∃ vk,∀ k,ks[i]? = some k→RowAt B W p i vk∧CoreAt B W k vk:=by
  intro i
  cases hi:ks[i]? with
  |none=>exact⟨undef,fun k e=>by cases e⟩
  |some k=>
   obtain⟨vk,h1⟩:=h i k hi
   exact⟨vk,fun k' e=>by cases e; exact h1⟩
 exact .mk (fun i=>Classical.choose (hv i)) hc ho hn hs (fun i k e=>(Classical.choose_spec (hv i) k e).1) (fun i k e=>(Classical.choose_spec (hv i) k e).2)
end
section
open Go.RowKit
def RowIn (ok:Nat→Prop)(W:World)(p:Option Addr)(i:Nat)(v:Value):Prop:=∃ b off x y z u,p=some ⟨b,off,none⟩∧ok b∧v=.agg #[x,y,z,u] ∧
 W.cell? ⟨b,off+i * 4,none⟩=some x∧W.cell? ⟨b,off+i * 4+1,none⟩=some y∧W.cell? ⟨b,off+i * 4+2,none⟩=some z∧W.cell? ⟨b,off+i * 4+3,none⟩=some u
inductive CoreIn (ok:Nat→Prop)(W:World):Co.T→Value→Prop
 |mk {op n:Int} {s:ByteArray} {ks:List Co.T} {p:Option Addr} {c:Nat} (vs:Nat→Value) (hc:ks.length≤c∧c≤maxLen) (ho:I64 op) (hn:I64 n) (hs:s.size≤2000000)
   (hr:∀ i k,ks[i]? = some k→RowIn ok W p i (vs i)) (hk:∀ i k,ks[i]? = some k→CoreIn ok W k (vs i)):CoreIn ok W (.mk op n s ks) (.agg #[.int .i64 op,.int .i64 n,.string s,.slice p ks.length c])
theorem zdb {W W':World}{b o:Nat}{v:Value}(h:W.cell? ⟨b,o,none⟩=some v)(hb:W'.heap[b]? = W.heap[b]?):W'.cell? ⟨b,o,none⟩=some v:=by
 unfold World.cell? at *
 simp only at *
 rw[hb]
 exact h
theorem RowIn.keep {ok ok':Nat→Prop}{W W':World}{p:Option Addr}{i:Nat}{v:Value}(h:RowIn ok W p i v)(hk:∀ b,ok b→b<W.heap.size→ok' b∧W'.heap[b]? = W.heap[b]?):RowIn ok' W' p i v:=by
 obtain⟨b,off,x,y,z,u,e,hl,hv,h0,h1,h2,h3⟩:=h
 obtain⟨h4,h5⟩:=hk b hl (World.block_lt_of_cell? W _ h0)
 exact⟨b,off,x,y,z,u,e,h4,hv,zdb h0 h5,zdb h1 h5,zdb h2 h5,zdb h3 h5⟩
theorem CoreIn.keep {ok ok':Nat→Prop}{W W':World}{t:Co.T}{v:Value}(h:CoreIn ok W t v)(hk:∀ b,ok b→b<W.heap.size→ok' b∧W'.heap[b]? = W.heap[b]?):CoreIn ok' W' t v:=by
 induction h with
 |mk vs hc ho hn hs hr hkk ih=>exact .mk vs hc ho hn hs (fun i k e=>(hr i k e).keep hk) (fun i k e=>ih i k e)
theorem CoreIn.under {ok:Nat→Prop}{W W':World}{t:Co.T}{v:Value}(h:CoreIn ok W t v)(hb:Below W.heap.size W W'):CoreIn ok W' t v:=
 h.keep fun b ho hl=>⟨ho,hb.block b hl⟩
theorem CoreIn.wk {ok ok':Nat→Prop}{W:World}{t:Co.T}{v:Value}(h:CoreIn ok W t v)(hk:∀ b,ok b→ok' b):CoreIn ok' W t v:=
 h.keep fun b ho _=>⟨hk b ho,rfl⟩
theorem CoreIn.old {ok:Nat→Prop}{W:World}{t:Co.T}{v:Value}{n:Nat}(h:CoreIn ok W t v):CoreIn (fun b=>ok b∨n≤b) W t v:=h.wk fun b ho=>.inl ho
theorem CoreIn.open {ok:Nat→Prop}{W:World}{t:Co.T}{v:Value}(h:CoreIn ok W t v):∃ p c,v=.agg #[.int .i64 t.op,.int .i64 t.n,.string t.s,.slice p t.ks.length c]∧(t.ks.length≤c∧c≤maxLen)∧I64 t.op∧I64 t.n∧t.s.size≤2000000 ∧
  ∀ i k,t.ks[i]? = some k→∃ vk,RowIn ok W p i vk∧CoreIn ok W k vk:=by
 cases h with
 |mk vs hc ho hn hs hr hk=>exact⟨_,_,rfl,hc,ho,hn,hs,fun i k e=>⟨vs i,hr i k e,hk i k e⟩⟩
open Classical in
theorem CoreIn.close {ok:Nat→Prop}{W:World}{op n:Int}{s:ByteArray}{ks:List Co.T}{p:Option Addr}{c:Nat}(hc:ks.length≤c∧c≤maxLen)(ho:I64 op)(hn:I64 n)(hs:s.size≤2000000)
  (h:∀ i k,ks[i]? = some k→∃ vk,RowIn ok W p i vk∧CoreIn ok W k vk):CoreIn ok W (.mk op n s ks) (.agg #[.int .i64 op,.int .i64 n,.string s,.slice p ks.length c]):=by
 have hv:∀ i,∃ vk,∀ k,ks[i]? = some k→RowIn ok W p i vk∧CoreIn ok W k vk:=by
  intro i
  cases hi:ks[i]? with
  |none=>exact⟨undef,fun k e=>by cases e⟩
  |some k=>
   obtain⟨vk,h1⟩:=h i k hi
   exact⟨vk,fun k' e=>by cases e; exact h1⟩
 exact .mk (fun i=>Classical.choose (hv i)) hc ho hn hs (fun i k e=>(Classical.choose_spec (hv i) k e).1) (fun i k e=>(Classical.choose_spec (hv i) k e).2)
theorem CoreIn.at' {ok:Nat→Prop}{W:World}{t:Co.T}{v:Value}{B:Nat}(h:CoreIn ok W t v)(hB:W.heap.size≤B):CoreAt B W t v:=by
 induction h with
 |mk vs hc ho hn hs hr hk ih=>
  refine .mk vs hc ho hn hs (fun i k e=>?_) (fun i k e=>ih i k e)
  obtain⟨b,off,x,y,z,u,e1,hl,hv,h0,h1,h2,h3⟩:=hr i k e
  exact⟨b,off,x,y,z,u,e1,Nat.lt_of_lt_of_le (World.block_lt_of_cell? W _ h0) hB,hv,h0,h1,h2,h3⟩
theorem CoreAt.in' {B:Nat}{W:World}{t:Co.T}{v:Value}(h:CoreAt B W t v):CoreIn (fun b=>b<B) W t v:=by
 induction h with
 |mk vs hc ho hn hs hr hk ih=>exact .mk vs hc ho hn hs (fun i k e=>hr i k e) (fun i k e=>ih i k e)
end
end Go.Proofs.YtanlmbbalamgkaaGreatDoor
