/- Proved: lemmas and contracts of the functions that the law reaches, part 18 of 36: DnCards0. Conditions: as each states. -/
import Derived.Test.YtanlmbbalamgkaaGreatDoorVmi10
import Derived.Test.YtanlmbbalamgkaaGreatDoorVmi17
namespace Go.Proofs.YtanlmbbalamgkaaGreatDoor
set_option linter.unusedVariables false
set_option linter.unusedSimpArgs false
section
open Go.ChangeShapes Go.WideShapes Go.ChangeAt Go.RowKit
set_option maxRecDepth 100000
theorem zku:laidOutB Tryz.prog=true:=by kernel_rfl
theorem own:ownKnob Tryz.prog.godebug=none:=by kernel_rfl
def zzb:Obj→Obj
 | .cells _ t frozen=>.cells ((([128,191,160,191,128,159,144,191,128,143]:List Int)++List.replicate 22 0).map (Value.int .u8)).toArray t frozen
 |o=>o
def qcs:Obj→Obj
 | .cells _ t frozen=>.cells (Pinned.utf8FirstZ.map fun (n:Nat)=>Value.int .u8 (n:Int)).toArray t frozen
 |o=>o
noncomputable def zmg (os:Os):World:=
 { World.holding Tryz.prog os ⟨#[],#[],[]⟩ with heap:=((World.holding Tryz.prog os ⟨#[],#[],[]⟩).heap.modify 4 zzb).modify 3 qcs }
theorem zyu {H:Type}{enc:TypeId × Value→H}{W:World}{base:Nat}{v:Value}{d:DataW H}{p:List MemPlace}(hval:Value.okWide Tryz.prog W .any base 24 v)
  (h:DataW.Trod enc Tryz.prog W 0 (fun _=>true) true 24 v d p) (hbk:Rows.uptoBulk d≤1048576):∃ t:Co.T,CoreIn (fun b=>b<W.heap.size) W t v∧t.size≤Rows.uptoBulk d:=by
 obtain⟨cs,hcs,_⟩:∃ cs,v=.agg cs∧cs.size=Tryz.prog.cellsOf 24∧Row.okWide Tryz.prog W .any base 24 cs:=by
  simpa only[Value.okWide,Tryz.underlying24] using hval
 subst hcs
 obtain⟨m,hm⟩:=h
 obtain⟨t,h1,h2⟩:=CoreOpen.core_in 1048576 hm hbk (Nat.le_refl _)
 have e:(Value.agg cs).cells.toList.toArray=cs:=by show cs.toList.toArray=cs; simp
 rw[e] at h1
 have h3:t.size≤Rows.uptoBulk d:=h2
 exact⟨t,h1.in',h3⟩
theorem zfj {n:Int}(h:(Lit.int .i64 n).wf=true) : -9223372036854775808≤n∧n≤9223372036854775807:=by
 have e0:IntKind.i64.min = -9223372036854775808:=by decide
 have e1:IntKind.i64.max=9223372036854775807:=by decide
 simpa [Lit.wf,e0,e1] using h
theorem qdq {H:Type}(d:DataW H):1≤Rows.uptoBulk d:=by
 cases d with
 |lit l=>cases l<;>simp[Rows.uptoBulk]
 |_=>simp[Rows.uptoBulk]
theorem zuc {H:Type}:∀ ds:List (DataW H),ds.length≤Rows.uptoBulkAll ds
 | []=>Nat.zero_le _
 |d::r=>by
  have h1:=qdq d
  have h2:=zuc r
  rw[Rows.uptoBulkAll,List.length_cons]
  omega
theorem ziy {H:Type}{d:DataW H}:∀ {ds:List (DataW H)},d∈ds→Rows.uptoBulk d≤Rows.uptoBulkAll ds
 | [],h=>by cases h
 |x::r,h=>by
  rw[Rows.uptoBulkAll]
  rcases List.mem_cons.1 h with rfl|h
  ·omega
  ·have:=ziy h
   omega
theorem zsa (b off k:Nat):((⟨b,off,none⟩:Addr).add k)=⟨b,off+k,none⟩:=by
 by_cases hk:k=0
 ·subst hk; simp[Addr.add]
 ·simp[Addr.add,hk]
theorem zim {W:World}{a:Addr}{v:Value}(h:W.cell? a=some v):a.spot=none:=by
 unfold World.cell? at h
 split at h
 ·split at h
  ·cases h
  ·rename_i h1
   simpa using h1
 ·cases h
theorem zmv {W:World}{a:Addr}{n:Nat}{cs:List Value}(h:W.cells? 0 (a.add (0 * n)) n=some cs)(hn:0<n):a.spot=none∧a.block<W.heap.size:=by
 obtain⟨_,hl,hc⟩:=World.cells?_some h
 have h0:=hc 0 hn
 have e:(a.add (0 * n)).add 0=a:=by simp[Addr.add]
 rw[List.getElem?_eq_getElem (by omega),e] at h0
 exact⟨zim h0,World.block_lt_of_cell? W a h0⟩
theorem zvl:Tryz.prog.cellsOf 114=2:=by kernel_rfl
theorem qbu {H:Type}{enc:TypeId × Value→H}{W:World}{m:Nat}{cs:List Value}{x:DataW H × List MemPlace}(hf:DataW.trod enc Tryz.prog W 0 (fun _=>true) true m 114 cs=some x):
  ∃ y:Int × Int,cs=[.int .i64 y.1,.int .i64 y.2]∧I64 y.1∧I64 y.2:=by
 obtain⟨xs,n,_,hx,hl,hlen,hfs⟩:=DataW.trod_struct Tryz.underlying114 hf
 have hln:cs.length=2:=hl.trans (by kernel_rfl)
 match xs,hlen,cs,hln with
 | [y0,y1],_,[c0,c1],_=>
  have kI:Tryz.prog.cellsOf 3=1:=by kernel_rfl
  have kL:Tryz.prog.cellsOf 2=1:=by kernel_rfl
  have h0:DataW.trod enc Tryz.prog W 0 (fun _=>true) true n 3 [c0]=some y0:=by simpa [kI,kL] using hfs 0 _ rfl
  have h1:DataW.trod enc Tryz.prog W 0 (fun _=>true) true n 2 [c1]=some y1:=by simpa [kI,kL] using hfs 1 _ rfl
  obtain⟨n0,e0,x0,w0⟩:=DataW.trod_int Tryz.underlying3 h0
  obtain⟨n1,e1,x1,w1⟩:=DataW.trod_int Tryz.underlying2 h1
  obtain rfl:c0=.int .i64 n0:=by simpa using e0
  obtain rfl:c1=.int .i64 n1:=by simpa using e1
  exact⟨(n0,n1),rfl,zfj w0,zfj w1⟩
theorem zyb {H:Type}{enc:TypeId × Value→H}{W:World}{k:Nat}{v:Value}{y:DataW H × List MemPlace}(h:DataW.trod enc Tryz.prog W 0 (fun _=>true) true k 110 [v]=some y):
  ∃ l:List (Int × Int),StampsAt W v l∧l.length≤Rows.uptoBulk y.1∧∀ n k,v=.slice none n k→k=0:=by
 rcases Go.Deep.open_slice Tryz.underlying110 h with⟨hcs,hx⟩|⟨a,len,cap,m,n,D,Pl,hcs,_,hl,hm,hmm,rfl,hx⟩
 ·obtain rfl:v=.slice none 0 0:=by simpa using hcs
  exact⟨[],⟨none,0,rfl,⟨Nat.le_refl _,Nat.zero_le _⟩,fun i o ho=>by simp at ho⟩,Nat.zero_le _,fun n k e=>by simp only[Value.slice.injEq] at e; exact e.2.2.symm⟩
 ·obtain rfl:v=.slice (some a) len cap:=by simpa using hcs
  simp only[if_true] at hmm
  subst hmm
  rw[zvl] at hx
  by_cases hl0:len=0
  ·subst hl0
   exact⟨[],⟨some a,_,rfl,⟨Nat.zero_le _,hm⟩,fun i o ho=>by simp at ho⟩,Nat.zero_le _,fun n k e=>by simp at e⟩
  obtain⟨_,hc1,_⟩:=hx 0 (by omega)
  obtain⟨k1,k2⟩:=zmv hc1 (by omega)
  obtain⟨b,off,spot⟩:=a
  obtain rfl:spot=none:=k1
  have each:∀ i,i<len→∃ y:Int × Int,(W.cell? ⟨b,off+i * 2,none⟩=some (.int .i64 y.1)∧W.cell? ⟨b,off+i * 2+1,none⟩=some (.int .i64 y.2))∧I64 y.1∧I64 y.2:=by
   intro i hi
   obtain⟨cs,hcl,ht⟩:=hx i (by omega)
   obtain⟨y,rfl,hr⟩:=qbu ht
   obtain⟨_,_,hc⟩:=World.cells?_some hcl
   have g0:=hc 0 (by decide)
   have g1:=hc 1 (by decide)
   rw[Go.Deep.add_add] at g0 g1
   rw[zsa] at g0 g1
   exact⟨y,⟨g0,g1⟩,hr⟩
  obtain⟨f,hf⟩:=Go.Deep.choose_lt each
  refine⟨(List.range len).map f,⟨some ⟨b,off,none⟩,_,by simp,⟨by simpa using hl,hm⟩,fun i x hx=>?_⟩,?_,fun n k e=>by simp at e⟩
  ·rw[List.getElem?_map] at hx
   obtain⟨j,hj,rfl⟩:=Option.map_eq_some_iff.1 hx
   obtain⟨hlt,e⟩:=List.getElem?_eq_some_iff.1 hj
   rw[List.getElem_range] at e
   subst e
   obtain⟨hc,hi⟩:=hf i (by simpa using hlt)
   exact⟨b,off,rfl,k2,hc,hi⟩
  ·have:=zuc ((List.range len).map D)
   simp only[Rows.uptoBulk,List.length_map,List.length_range] at this ⊢
   omega
theorem zxm:Tryz.prog.cellsOf 112=2:=by kernel_rfl
theorem qfd {H:Type}{enc:TypeId × Value→H}{W:World}{m:Nat}{cs:List Value}{x:DataW H × List MemPlace}(hf:DataW.trod enc Tryz.prog W 0 (fun _=>true) true m 112 cs=some x)(hbk:Rows.uptoBulk x.1≤1048576):
  ∃(y:Fd.Feed) (sv:Value),cs=[.string y.1,sv]∧StampsAt W sv y.2∧y.1.size≤2000000:=by
 obtain⟨xs,n,_,hx,hl,hlen,hfs⟩:=DataW.trod_struct Tryz.underlying112 hf
 have hln:cs.length=2:=hl.trans (by kernel_rfl)
 match xs,hlen,cs,hln with
 | [y0,y1],_,[c0,c1],_=>
  have kS:Tryz.prog.cellsOf 9=1:=by kernel_rfl
  have kL:Tryz.prog.cellsOf 110=1:=by kernel_rfl
  have h0:DataW.trod enc Tryz.prog W 0 (fun _=>true) true n 9 [c0]=some y0:=by simpa [kS,kL] using hfs 0 _ rfl
  have h1:DataW.trod enc Tryz.prog W 0 (fun _=>true) true n 110 [c1]=some y1:=by simpa [kS,kL] using hfs 1 _ rfl
  obtain⟨n0,e0,x0,w0⟩:=DataW.trod_string Tryz.underlying9 h0
  obtain rfl:c0=.string n0:=by simpa using e0
  obtain⟨l,hl,_,_⟩:=zyb h1
  subst hx
  simp only[Rows.uptoBulk,Rows.uptoBulkAll,List.map_cons,List.map_nil,x0] at hbk
  have z0:n0.size=n0.data.toList.length:=by rw[Array.length_toList]; rfl
  exact⟨(n0,l),c1,rfl,hl,by show n0.size≤_; omega⟩
theorem qdg {H:Type}{enc:TypeId × Value→H}{W:World}{k:Nat}{v:Value}{y:DataW H × List MemPlace}(h:DataW.trod enc Tryz.prog W 0 (fun _=>true) true k 44 [v]=some y)(hbk:Rows.uptoBulk y.1≤1048576):
  ∃ l:List Fd.Feed,FeedsAt W v l:=by
 rcases Go.Deep.open_slice Tryz.underlying44 h with⟨hcs,hx⟩|⟨a,len,cap,m,n,D,Pl,hcs,_,hl,hm,hmm,rfl,hx⟩
 ·obtain rfl:v=.slice none 0 0:=by simpa using hcs
  exact⟨[],none,0,rfl,⟨Nat.le_refl _,Nat.zero_le _⟩,fun i o ho=>by simp at ho⟩
 ·obtain rfl:v=.slice (some a) len cap:=by simpa using hcs
  simp only[if_true] at hmm
  subst hmm
  rw[zxm] at hx
  by_cases hl0:len=0
  ·subst hl0
   exact⟨[],some a,_,rfl,⟨Nat.zero_le _,hm⟩,fun i o ho=>by simp at ho⟩
  obtain⟨_,hc1,_⟩:=hx 0 (by omega)
  obtain⟨k1,k2⟩:=zmv hc1 (by omega)
  obtain⟨b,off,spot⟩:=a
  obtain rfl:spot=none:=k1
  rw[Rows.uptoBulk] at hbk
  have each:∀ i,i<len→∃ y:Fd.Feed,∃ sv,(W.cell? ⟨b,off+i * 2,none⟩=some (.string y.1)∧W.cell? ⟨b,off+i * 2+1,none⟩=some sv)∧StampsAt W sv y.2∧y.1.size≤2000000:=by
   intro i hi
   obtain⟨cs,hcl,ht⟩:=hx i (by omega)
   have hmem:Rows.uptoBulk (D i)≤1048576:=by
    have:=ziy (d:=D i) (ds:=(List.range len).map D) (List.mem_map_of_mem (List.mem_range.2 hi))
    omega
   obtain⟨y,sv,rfl,hst,hsz⟩:=qfd ht hmem
   obtain⟨_,_,hc⟩:=World.cells?_some hcl
   have g0:=hc 0 (by decide)
   have g1:=hc 1 (by decide)
   rw[Go.Deep.add_add] at g0 g1
   rw[zsa] at g0 g1
   exact⟨y,sv,⟨g0,g1⟩,hst,hsz⟩
  obtain⟨f,hf⟩:=Go.Deep.choose_lt each
  refine⟨(List.range len).map f,some ⟨b,off,none⟩,_,by simp,⟨by simpa using hl,hm⟩,fun i x hx=>?_⟩
  rw[List.getElem?_map] at hx
  obtain⟨j,hj,rfl⟩:=Option.map_eq_some_iff.1 hx
  obtain⟨hlt,e⟩:=List.getElem?_eq_some_iff.1 hj
  rw[List.getElem_range] at e
  subst e
  obtain⟨sv,hc,hst,hsz⟩:=hf i (by simpa using hlt)
  exact⟨b,off,sv,rfl,k2,hc,hst,hsz⟩
end
end Go.Proofs.YtanlmbbalamgkaaGreatDoor
