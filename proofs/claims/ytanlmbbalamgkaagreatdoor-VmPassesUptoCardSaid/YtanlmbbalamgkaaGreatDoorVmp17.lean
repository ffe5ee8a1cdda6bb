/- Proved: lemmas and contracts of the functions that the law reaches, part 17 of 35: CoreOpen. Conditions: as each states. -/
import Derived.Test.YtanlmbbalamgkaaGreatDoorCards
import Derived.Test.YtanlmbbalamgkaaGreatDoorTie
import Derived.Deep.DeepHandedRow
import Derived.Lib.SmallJoins
import Derived.Test.YtanlmbbalamgkaaGreatDoorVmp8
namespace Go.Proofs.YtanlmbbalamgkaaGreatDoor
set_option linter.unusedVariables false
set_option linter.unusedSimpArgs false
section
open Go.ChangeShapes Go.WideShapes Go.ChangeAt Go.RowKit
set_option maxRecDepth 100000
namespace CoreOpen
theorem oe {n:Int}(h:(Lit.int .i64 n).wf=true):I64 n:=by
 have e0:IntKind.i64.min = -9223372036854775808:=by decide
 have e1:IntKind.i64.max=9223372036854775807:=by decide
 simpa [I64,Lit.wf,e0,e1] using h
theorem rq {H:Type}{d:DataW H}:∀ {ds:List (DataW H)},d∈ds→Rows.uptoBulk d≤Rows.uptoBulkAll ds
 | [],h=>by cases h
 |x::r,h=>by
  rw[Rows.uptoBulkAll];rcases List.mem_cons.1 h with rfl|h
  ·omega
  ·have:=rq h;omega
theorem zfj (b off k:Nat):((⟨b,off,none⟩:Addr).add k)=⟨b,off+k,none⟩:=by
 by_cases hk:k=0
 ·subst hk; simp[Addr.add]
 ·simp[Addr.add,hk]
theorem uk {W:World}{a:Addr}{v:Value}(h:W.cell? a=some v):a.spot=none:=by
 unfold World.cell? at h;split at h
 ·split at h
  ·cases h
  ·rename_i h1;simpa using h1
 ·cases h
theorem xu {W:World}{a:Addr}{n:Nat}{cs:List Value}(h:W.cells? 0 (a.add (0 * n)) n=some cs)(hn:0<n):a.spot=none∧a.block<W.heap.size:=by
 obtain⟨_,hl,hc⟩:=World.cells?_some h;have h0:=hc 0 hn;have e:(a.add (0 * n)).add 0=a:=by simp[Addr.add]
 rw[List.getElem?_eq_getElem (by omega),e] at h0;exact⟨uk h0,World.block_lt_of_cell? W a h0⟩
theorem zoh:Tryz.prog.cellsOf 24=4:=by kernel_rfl
theorem zip {H:Type}(D:Nat→DataW H):∀(l:List Nat) (f:Nat→Co.T),(∀ i,i∈l→(f i).size≤Rows.uptoBulk (D i))→Co.sizes (l.map f)≤Rows.uptoBulkAll (l.map D)
 | [],_,_=>Nat.zero_le _
 |a::r,f,h=>by
  have h1:=h a (List.mem_cons_self ..);have h2:=zip D r f (fun i hi=>h i (List.mem_cons_of_mem _ hi));rw[List.map_cons,List.map_cons,Co.sizes,Rows.uptoBulkAll];omega
theorem core_in {H:Type}{enc:TypeId × Value→H}{W:World}:∀(N:Nat) {m:Nat} {cs:List Value} {x:DataW H × List MemPlace},DataW.trod enc Tryz.prog W 0 (fun _=>true) true m 24 cs=some x→Rows.uptoBulk x.1≤N→N≤1048576 →
  ∃ t:Co.T,CoreAt W.heap.size W t (.agg cs.toArray)∧t.size≤Rows.uptoBulk x.1:=by
 intro N;induction N with
 |zero=>
  intro m cs x hf hb _;obtain⟨xs,n,_,hx,hl,A1,A2⟩:=DataW.trod_struct Tryz.underlying24 hf;subst hx;rw[Rows.uptoBulk] at hb;omega
 |succ N ih=>
  intro m cs x hf hb hN;obtain⟨xs,n,_,hx,hl,A1,A2⟩:=DataW.trod_struct Tryz.underlying24 hf;have A9:cs.length=4:=hl.trans (by kernel_rfl);match xs,A1,cs,A9 with
  | [y0,y1,y2,y3],_,[c0,c1,c2,c3],_=>
   have kS:Tryz.prog.cellsOf 9=1:=by kernel_rfl
   have kI:Tryz.prog.cellsOf 3=1:=by kernel_rfl
   have kL:Tryz.prog.cellsOf 2=1:=by kernel_rfl
   have kC:Tryz.prog.cellsOf 22=1:=by kernel_rfl
   have h0:DataW.trod enc Tryz.prog W 0 (fun _=>true) true n 3 [c0]=some y0:=by simpa [kS,kI,kL,kC] using A2 0 _ rfl
   have h1:DataW.trod enc Tryz.prog W 0 (fun _=>true) true n 2 [c1]=some y1:=by simpa [kS,kI,kL,kC] using A2 1 _ rfl
   have h2:DataW.trod enc Tryz.prog W 0 (fun _=>true) true n 9 [c2]=some y2:=by simpa [kS,kI,kL,kC] using A2 2 _ rfl
   have h3:DataW.trod enc Tryz.prog W 0 (fun _=>true) true n 22 [c3]=some y3:=by simpa [kS,kI,kL,kC] using A2 3 _ rfl
   obtain⟨n0,e0,x0,w0⟩:=DataW.trod_int Tryz.underlying3 h0;obtain⟨n1,e1,x1,w1⟩:=DataW.trod_int Tryz.underlying2 h1;obtain⟨n2,e2,x2,w2⟩:=DataW.trod_string Tryz.underlying9 h2;obtain rfl:c0=.int .i64 n0:=by simpa using e0
   obtain rfl:c1=.int .i64 n1:=by simpa using e1
   obtain rfl:c2=.string n2:=by simpa using e2
   subst hx;simp only[Rows.uptoBulk,Rows.uptoBulkAll,List.map_cons,List.map_nil,x0,x1,x2] at hb ⊢;have z2:n2.size=n2.data.toList.length:=by rw[Array.length_toList]; rfl
   rcases Go.Deep.open_slice Tryz.underlying22 h3 with⟨A6,hx⟩|⟨a,len,cap,mm,nn,D,Pl,A6,_,B0,hm,A7,rfl,hx⟩
   ·obtain rfl:c3=.slice none 0 0:=by simpa using A6
    refine⟨.mk n0 n1 n2 [],CoreAt.close (ks:=[]) ⟨Nat.le_refl _,Nat.zero_le _⟩ (oe w0) (oe w1) (by omega) (fun i k e=>by simp at e),?_⟩;simp only[Co.T.size,Co.sizes];omega
   ·obtain rfl:c3=.slice (some a) len cap:=by simpa using A6
    simp only[if_true] at A7;subst A7;rw[zoh] at hx;simp only[Rows.uptoBulk] at hb ⊢;by_cases B1:len=0
    ·subst B1;refine⟨.mk n0 n1 n2 [],CoreAt.close (ks:=[]) ⟨Nat.zero_le _,hm⟩ (oe w0) (oe w1) (by omega) (fun i k e=>by simp at e),?_⟩;simp only[Co.T.size,Co.sizes];omega
    obtain⟨_,B2,_⟩:=hx 0 (by omega);obtain⟨k1,k2⟩:=xu B2 (by omega);obtain⟨b,off,spot⟩:=a;obtain rfl:spot=none:=k1;have each:∀ i,i<len→∃ k:Co.T,(∃ vk,RowAt W.heap.size W (some ⟨b,off,none⟩) i vk∧CoreAt W.heap.size W k vk)∧k.size≤Rows.uptoBulk (D i):=by
     intro i hi;obtain⟨cs,A3,ht⟩:=hx i (by omega);have A4:Rows.uptoBulk (D i)≤N:=by
      have:=rq (d:=D i) (ds:=(List.range len).map D) (List.mem_map_of_mem (List.mem_range.2 hi));omega
     obtain⟨k,hk,hs⟩:=ih ht A4 (by omega);obtain⟨_,A5,hc⟩:=World.cells?_some A3;match cs,A5 with
     | [d0,d1,d2,d3],_=>
      have g0:=hc 0 (by decide);have g1:=hc 1 (by decide);have g2:=hc 2 (by decide);have g3:=hc 3 (by decide);rw[Go.Deep.add_add] at g0 g1 g2 g3;rw[zfj] at g0 g1 g2 g3;exact⟨k,⟨_,⟨b,off,d0,d1,d2,d3,rfl,k2,rfl,g0,g1,g2,g3⟩,hk⟩,hs⟩
    obtain⟨f,hf⟩:=Go.Deep.choose_lt each;have A0:((List.range len).map f).length=len:=by simp
    have B3:=zip D (List.range len) f (fun i hi=>(hf i (List.mem_range.1 hi)).2);refine⟨.mk n0 n1 n2 ((List.range len).map f),?_,?_⟩
    ·have A3:=CoreAt.close (B:=W.heap.size) (W:=W) (op:=n0) (n:=n1) (s:=n2) (ks:=(List.range len).map f) (p:=some ⟨b,off,none⟩) (c:=_) (by rw[A0]; exact⟨B0,hm⟩) (oe w0) (oe w1) (by omega) (fun i k e=>by
      rw[List.getElem?_map] at e;obtain⟨j,hj,rfl⟩:=Option.map_eq_some_iff.1 e;obtain⟨A8,e⟩:=List.getElem?_eq_some_iff.1 hj;rw[List.getElem_range] at e;subst e;exact(hf i (by simpa using A8)).1)
     rw[A0] at A3;exact A3
    ·rw[Co.T.size];omega
end CoreOpen
end
end Go.Proofs.YtanlmbbalamgkaaGreatDoor
