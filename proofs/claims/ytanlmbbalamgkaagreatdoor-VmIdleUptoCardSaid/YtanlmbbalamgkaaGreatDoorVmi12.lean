/- Proved: lemmas and contracts of the functions that the law reaches, part 12 of 36: OwnRows, TailRow. Conditions: as each states. -/
import Derived.RangeFuncBox
import Derived.Deep.DeepCutAuto
import Derived.Deep.MidRow
import Derived.Test.YtanlmbbalamgkaaGreatDoorVmi8
namespace Go.Proofs.YtanlmbbalamgkaaGreatDoor
set_option linter.unusedVariables false
set_option linter.unusedSimpArgs false
section
open Go.RowKit
namespace Rw
theorem add_gen (b off j:Nat):(⟨b,off,none⟩:Addr).add j=⟨b,off+j,none⟩:=by unfold Addr.add; split<;>simp_all
theorem zan {W w1:World}(B:Below W.heap.size W w1):∀(a:Addr) (v:Value),W.cell? a=some v→w1.cell? a=some v:=fun a v h=>(B.cell (World.block_lt_of_cell? W a h)).trans h
theorem grown_of_below {W W':World}(b:Below W.heap.size W W')(r:Option Nat):W.grownBy W' r:=⟨b.os,b.tape,b.output,b.size,fun k hk _=>b.block k hk⟩
theorem grown_trans {A B C:World}{r:Option Nat}(h:A.grownBy B r)(k:B.grownBy C r):A.grownBy C r:=
 ⟨k.os.trans h.os,k.tape.trans h.tape,k.output.trans h.output,Nat.le_trans h.size k.size,fun j hj hr=>(k.block j (Nat.lt_of_lt_of_le hj h.size) hr).trans (h.block j hj hr)⟩
theorem below_grown {base B:Nat}{A W W':World}(h:Below base A W)(g:W.grownBy W' (some B))(hb:base≤B)(hs:base≤W.heap.size):Below base A W':=
 h.trans ⟨g.os,g.tape,g.output,g.size,fun k hk=>g.block k (Nat.lt_of_lt_of_le hk hs) (fun e=>by cases e; omega)⟩
theorem grown_set (W:World)(rb o:Nat)(u:Value):W.grownBy (W.setCell ⟨rb,o,none⟩ u) (some rb):=
 ⟨rfl,rfl,rfl,(KeepsWalks.setCell W _ u).size,fun k _ hk=>Below.heap_setCell _ _ _ k (fun e=>hk (by rw[e]))⟩
theorem frozen_of {W:World}{b o:Nat}{xs:Array Value}{t:TypeId}(h:W.heap[b]? = some (.cells xs t (0,0))):W.frozen? ⟨b,o,none⟩=false:=by simp[World.frozen?,h]
theorem cells_at {α:Type}(f:α→List Value)(m:Nat)(hm:∀ x,(f x).length=m)(L:List α):∀(i:Nat) (x:α) (j:Nat),L[i]? = some x→j<m→(L.flatMap f)[i * m+j]? = (f x)[j]?:=by
 induction L with
 |nil=>intro i x j h; simp at h
 |cons y t ih=>
  intro i x j h hj
  rw[List.flatMap_cons]
  cases i with
  |zero=>
   simp at h; subst h
   rw[Nat.zero_mul,Nat.zero_add,List.getElem?_append_left (by rw[hm]; exact hj)]
  |succ i=>
   have:=ih i x j (by simpa using h) hj
   rw[show(i+1) * m+j=m+(i * m+j) by rw[Nat.add_mul]; omega,List.getElem?_append_right (by rw[hm]; omega),hm,Nat.add_sub_cancel_left]
   exact this
theorem zrh {α:Type}(f:α→List Value)(m:Nat)(hm:∀ x,(f x).length=m)(L:List α):(L.flatMap f).length=L.length * m:=by
 induction L with
 |nil=>simp
 |cons y t ih=>rw[List.flatMap_cons,List.length_append,hm,ih,List.length_cons,Nat.add_mul]; omega
theorem info_split {t:TypeId}{z:Value}{s b:Nat}(h:(Tryz.prog.info? t).map (fun i=>(i.zero,i.size,i.bytes))=some (some z,s,b)):
  ∃ i,Tryz.prog.info? t=some i∧i.zero=some z∧i.size=s∧i.bytes=b:=by
 cases hi:Tryz.prog.info? t with
 |none=>rw[hi] at h; cases h
 |some i=>rw[hi] at h; simp at h; exact⟨i,rfl,h.1,h.2.1,h.2.2⟩
theorem qel {α:Type}{l m:List α}{n k:Nat}{x:α}(h:l.take n=m)(hx:m[k]? = some x):l[k]? = some x:=by
 rw[←h] at hx
 rw[List.getElem?_take] at hx
 split at hx
 ·exact hx
 ·cases hx
theorem zay {W:World}{base:Nat}{e:TypeId}{s n:Nat}{v:Value}{xs:List Value}(h:W.ownsRow base e s v n xs):∃ p c,v=.slice p n c:=by
 obtain⟨h0,⟨rfl,hz⟩|⟨g,cap,cur,rfl,_⟩⟩:=h
 ·exact⟨none,0,by rw[hz]⟩
 ·exact⟨_,_,rfl⟩
theorem zes {W:World}{base:Nat}{e:TypeId}{s n:Nat}{v:Value}{xs:List Value}(h:W.ownsRow base e s v n xs){k:Nat}(hk:k<base):v.ownBlock≠some k:=by
 rcases h.2 with⟨rfl,_⟩|⟨g,cap,cur,rfl,hb,_⟩
 ·intro e; cases e
 ·intro e
  have e2:g=k:=Option.some.inj e
  omega
theorem zor {W:World}{b1 b2 s1 s2 n1 n2:Nat}{t1 t2:TypeId}{v1 v2:Value}{x1 x2:List Value}(h1:W.ownsRow b1 t1 s1 v1 n1 x1)(h2:W.ownsRow b2 t2 s2 v2 n2 x2)(ht:t1≠t2):v1.ownBlock=none∨v1.ownBlock≠v2.ownBlock:=by
 rcases h1.2 with⟨rfl,_⟩|⟨g1,c1,u1,rfl,_,e1,_⟩
 ·exact .inl rfl
 ·refine .inr ?_
  rcases h2.2 with⟨rfl,_⟩|⟨g2,c2,u2,rfl,_,e2,_⟩
  ·intro e; cases e
  ·intro e
   have e3:g1=g2:=Option.some.inj e
   rw[e3,e2] at e1
   simp at e1
   exact ht e1.2.symm
theorem zcl {w:World}{p:Addr}{v:Value}(h:w.cell? p=some v)(o:Obj):(w.alloc o).cell? p=some v:=
 (((Below.refl w.heap.size w).alloc (Nat.le_refl _) o).cell (World.block_lt_of_cell? _ _ h)).trans h
theorem box_grown {W W':World}{b B:Nat}{o:Obj}(g:W.grownBy W' (some B))(hne:b≠B)(h:W.heap[b]? = some o):W'.heap[b]? = some o:=(g.block b (zac h) (fun e=>by cases e; exact hne rfl)).trans h
end Rw
end
section
open Go.RowKit
def zcr (w:World)(base:Nat)(e:TypeId)(size:Nat)(v:Value)(n:Nat)(xs:List Value):Prop:=
 xs.length=n * size ∧
 ((v=.slice none 0 0∧n=0) ∨
  ∃ g o cap cur,v=.slice (some ⟨g,o,none⟩) n cap∧base≤g∧w.heap[g]? = some (.cells cur e (0,0))∧n≤cap∧cap≤maxLen∧o+cap * size≤cur.size∧(cur.toList.drop o).take (n * size)=xs)
section
variable {w:World}{base:Nat}{e:TypeId}{size:Nat}{v:Value}{n:Nat}{xs:List Value}
theorem qbp (w:World)(base:Nat)(e:TypeId)(size:Nat):zcr w base e size (.slice none 0 0) 0 []:=⟨by simp,.inl ⟨rfl,rfl⟩⟩
theorem zmu (h:zcr w base e size v n xs):∀ k,v.ownBlock=some k→base≤k∧k<w.heap.size:=by
 intro k hk
 rcases h.2 with⟨rfl,_⟩|⟨g,o,cap,cur,rfl,hb,hg,_⟩
 ·simp[Value.ownBlock] at hk
 ·simp[Value.ownBlock] at hk
  subst hk
  exact⟨hb,(Array.getElem?_eq_some_iff.1 hg).1⟩
theorem zlr {w':World}{row:Option Nat}(h:zcr w base e size v n xs)(hg:w.grownBy w' row)(hne:v.ownBlock=none∨v.ownBlock≠row):zcr w' base e size v n xs:=by
 refine⟨h.1,?_⟩
 rcases h.2 with hn|⟨g,o,cap,cur,rfl,hb,hgg,rest⟩
 ·exact .inl hn
 ·refine .inr ⟨g,o,cap,cur,rfl,hb,?_,rest⟩
  rw[hg.block g (Array.getElem?_eq_some_iff.1 hgg).1 (by simpa [Value.ownBlock] using hne)]
  exact hgg
theorem zom (h:zcr w base e size v n xs){p:Addr}{c:Nat}(hv:v=.slice (some p) n c):∀ j u,xs[j]? = some u→w.cell? (p.add j)=some u:=by
 intro j u hu
 rcases h.2 with⟨rfl,_⟩|⟨g,o,cap,cur,rfl,_,hgg,_,_,_,htake⟩
 ·cases hv
 ·cases hv
  rw[Addr.add_mid,cell_of_row w g (o+j) cur e (0,0) hgg]
  rw[←htake,List.getElem?_take,List.getElem?_drop] at hu
  split at hu
  ·simpa using hu
  ·cases hu
theorem qbq (h:zcr w base e size v (n+1) xs):∃ g o c,v=.slice (some ⟨g,o,none⟩) (n+1) c∧n+1≤c∧zcr w base e size (.slice (some ⟨g,o+size,none⟩) n (c - 1)) n (xs.drop size):=by
 rcases h.2 with⟨_,h0⟩|⟨g,o,cap,cur,rfl,hb,hgg,hc,hm,hs,htake⟩
 ·cases h0
 ·refine⟨g,o,cap,rfl,hc,by rw[List.length_drop,h.1,Nat.add_mul]; omega,.inr ⟨g,o+size,cap - 1,cur,rfl,hb,hgg,by omega,by omega,?_,?_⟩⟩
  ·obtain⟨k,rfl⟩:∃ k,cap=k+1:=⟨cap - 1,by omega⟩
   rw[Nat.add_mul] at hs
   simp only[Nat.add_sub_cancel]
   omega
  ·rw[←htake,←List.drop_drop,List.drop_take,Nat.add_mul]
   congr 1
   omega
end
section
variable {P:Program}(w:World)
theorem zkm (t ty e:TypeId)(i:TypeInfo)(ht:P.underlying t=some (.slice e))(hi:P.info? e=some i)
  (g o sLen sCap:Nat) (cur:Array Value) (hg:w.heap[g]? = some (.cells cur e (0,0)))
  (a:Addr) (m c:Nat) (news:List Value) (hl:news.length=m * i.size) (hnews:∀ j u,news[j]? = some u→w.cell? (a.add j)=some u) (h1:∀ u∈news,u.oneCell'=true)
  (hroom:sLen+m≤sCap) (hfit:o+sLen * i.size+news.length≤cur.size):
  (Builtin.append_ #[t,t] ty #[.slice (some ⟨g,o,none⟩) sLen sCap,.slice (some a) m c]).run P w =
   .ok (.slice (some ⟨g,o,none⟩) (sLen+m) sCap) (w.setRow g (cur.toList.take (o+sLen * i.size)++news++cur.toList.drop (o+sLen * i.size+news.length)).toArray):=by
 have hf:=run_firstCells_some (P:=P) w i.size m a m c news hl hnews
 have hst:=run_storeCells_at P g (o+sLen * i.size) e news 0 cur w hg (by simpa using hfit) h1
 simp only[Nat.add_zero] at hst
 simp[Builtin.append_,run_underlying ht,sizeOf,typeInfo,hi,Builtin.lenOf,hroom,hf,Addr.add_mid,hst]
theorem zoq (base:Nat)(t ty e:TypeId)(i:TypeInfo)(z:Value)(size bytes:Nat)(ht:P.underlying t=some (.slice e))(hi:P.info? e=some i)(hz:i.zero=some z)
  (hsize:i.size=size) (hby:i.bytes=bytes) (hzs:z.cells.size=size) (hsz:0<size)
  (v:Value) (n:Nat) (xs:List Value) (hown:zcr w base e size v n xs)
  (a:Addr) (m c:Nat) (news:List Value) (hl:news.length=m * size) (hnews:∀ j u,news[j]? = some u→w.cell? (a.add j)=some u) (h1:∀ u∈news,u.oneCell'=true)
  (h63:n+m≤maxLen) (hbytes:(n+m) * bytes≤140737488355328) (hbase:base≤w.heap.size):
  ∃ v' w',(Builtin.append_ #[t,t] ty #[v,.slice (some a) m c]).run P w=.ok v' w'∧zcr w' base e size v' (n+m) (xs++news)∧w.grownBy w' v.ownBlock∧(∀ k,v'.ownBlock=some k→v.ownBlock=some k∨w.heap.size≤k):=by
 subst hsize
 subst hby
 have hsmall:n+m≤9223372036854775807:=by simp only[maxLen] at h63; omega
 have hlen:(xs++news).length=(n+m) * i.size:=by rw[List.length_append,hown.1,hl,Nat.add_mul]
 rcases hown.2 with⟨rfl,rfl⟩|⟨g,o,cap,cur,rfl,hbg,hg,hnc,hcm,hcs,htake⟩
 ·have hx:xs=[]:=List.eq_nil_of_length_eq_zero (by simpa using hown.1)
  subst hx
  obtain⟨v',w',h2,h3,h4,_⟩:=run_append_own (P:=P) w w.heap.size t ty e i z i.size i.bytes ht hi hz rfl rfl hzs hsz (.slice none 0 0) 0 [] (World.ownsRow_nil w w.heap.size e i.size) a m c news hl hnews h1 h63 hbytes (Nat.le_refl _)
  refine⟨v',w',h2,⟨h3.1,?_⟩,h4,fun k hk=>.inr (h3.lt k hk).1⟩
  rcases h3.2 with h5|⟨g,cap,cur,e1,e2,e3,e4,e5,e6,e7⟩
  ·exact .inl h5
  ·exact .inr ⟨g,0,cap,cur,e1,Nat.le_trans hbase e2,e3,e4,e5,by omega,by simpa using e7⟩
 ·by_cases hroom:n+m≤cap
  ·have hm:(n+m) * i.size≤cap * i.size:=Nat.mul_le_mul_right _ hroom
   have hfit:o+n * i.size+news.length≤cur.size:=by rw[hl]; rw[Nat.add_mul] at hm; omega
   have hr:=zkm (P:=P) w t ty e i ht hi g o n cap cur hg a m c news hl hnews h1 hroom hfit
   have hol:o+n * i.size≤cur.toList.length:=by rw[Array.length_toList]; omega
   refine⟨_,_,hr,⟨hlen,.inr ⟨g,o,cap,_,rfl,hbg,setRow_heap w g cur _ e _ hg,hroom,hcm,?_,?_⟩⟩,⟨rfl,rfl,rfl,by simp,fun k _ hk=>setRow_other w g k _ (fun e=>hk (by simp[Value.ownBlock,e]))⟩,fun k hk=>.inl hk⟩
   ·simp only[List.size_toArray,List.length_append,List.length_take,List.length_drop,Array.length_toList]
    omega
   ·have e1:(cur.toList.take (o+n * i.size)).drop o=xs:=by
     rw[←htake,List.drop_take]
     congr 1
     omega
    have hl1:(cur.toList.take (o+n * i.size)).length=o+n * i.size:=by rw[List.length_take]; omega
    rw[List.append_assoc,List.drop_append_of_le_length (by omega),e1,←List.append_assoc,←hlen]
    exact List.take_left
  ·have holds:∀ j u,xs[j]? = some u→w.cell? ((⟨g,o,none⟩:Addr).add j)=some u:=zom hown rfl
   have hr:=run_append_grow (P:=P) w t ty e i z ht hi hz ⟨g,o,none⟩ n cap xs hown.1 holds a m c news hl hnews (by omega) (by omega) (growslice_fits (by omega) hbytes)
   have hge:=grownCap_ge w (n+m) cap e
   have hcm2:grownCap w (n+m) cap e≤maxLen:=grownCap_le_maxLen w (n+m) cap e h63
   refine⟨_,_,hr,⟨hlen,.inr ⟨w.heap.size,0,_,_,rfl,hbase,heap_alloc_new w.drew _,hge,hcm2,?_,?_⟩⟩,⟨rfl,rfl,rfl,by simp,fun k hk _=>Below.heap_alloc w.drew _ k hk⟩,fun k hk=>.inr (Nat.le_of_eq (Option.some.inj hk))⟩
   ·simp only[Array.size_append,List.size_toArray,size_zeroCells,hzs,hown.1,hl,←Nat.add_mul]
    rw[Nat.zero_add]
    apply Nat.le_of_eq
    congr 1
    omega
   ·simp only[Array.toList_append,List.append_assoc,List.drop_zero]
    rw[←List.append_assoc,←hlen]
    exact List.take_left
end
end
end Go.Proofs.YtanlmbbalamgkaaGreatDoor
