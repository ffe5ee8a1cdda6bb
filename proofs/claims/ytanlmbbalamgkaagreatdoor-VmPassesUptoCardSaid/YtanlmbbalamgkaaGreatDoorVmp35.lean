/- Proved: lemmas and contracts of the functions that the law reaches, part 35 of 35: VmEvIn. Conditions: as each states. -/
import Derived.Test.YtanlmbbalamgkaaGreatDoorVmp18
import Derived.Test.YtanlmbbalamgkaaGreatDoorVmp34
namespace Go.Proofs.YtanlmbbalamgkaaGreatDoor
set_option linter.unusedVariables false
set_option linter.unusedSimpArgs false
section
open Go.ChangeShapes Go.WideShapes Go.ChangeAt Go.RowKit
open Gf (Ev zwd)
set_option maxRecDepth 100000
theorem zlp:Tryz.prog.cellsOf 48=4:=by kernel_rfl
theorem zvg {H:Type}{enc:TypeId × Value→H}{W:World}{m:Nat}{cs:List Value}{x:DataW H × List MemPlace}(hf:DataW.trod enc Tryz.prog W 0 (fun _=>true) true m 48 cs=some x)(A4:Rows.uptoBulk x.1≤1048576):
  ∃(y:Ev) (sv:Value),cs=[.int .i64 y.1,sv,.string y.2.2.1,.int .i64 y.2.2.2]∧FeedsAt W sv y.2.1∧y.2.2.1.size≤2000000:=by
 obtain⟨xs,n,_,hx,hl,A2,A3⟩:=DataW.trod_struct Tryz.underlying48 hf;have A5:cs.length=4:=hl.trans (by kernel_rfl);match xs,A2,cs,A5 with
 | [y0,y1,y2],_,[c0,c1,c2,c3],_=>
  have kI:Tryz.prog.cellsOf 3=1:=by kernel_rfl
  have kF:Tryz.prog.cellsOf 44=1:=by kernel_rfl
  have kC:Tryz.prog.cellsOf 46=2:=by kernel_rfl
  have kS:Tryz.prog.cellsOf 9=1:=by kernel_rfl
  have h0:DataW.trod enc Tryz.prog W 0 (fun _=>true) true n 3 [c0]=some y0:=by simpa [kI,kF,kC] using A3 0 _ rfl
  have h1:DataW.trod enc Tryz.prog W 0 (fun _=>true) true n 44 [c1]=some y1:=by simpa [kI,kF,kC] using A3 1 _ rfl
  have h2:DataW.trod enc Tryz.prog W 0 (fun _=>true) true n 46 [c2,c3]=some y2:=by simpa [kI,kF,kC] using A3 2 _ rfl
  subst hx;simp only[Rows.uptoBulk,Rows.uptoBulkAll,List.map_cons,List.map_nil] at A4;obtain⟨n0,e0,x0,w0⟩:=DataW.trod_int Tryz.underlying3 h0;obtain rfl:c0=.int .i64 n0:=by simpa using e0
  obtain⟨l,A6⟩:=zve h1 (by omega);obtain⟨zs,n',_,hz,A7,A0,A1⟩:=DataW.trod_struct Tryz.underlying46 h2;match zs,A0 with
  | [z0,z1],_=>
   have k0:DataW.trod enc Tryz.prog W 0 (fun _=>true) true n' 9 [c2]=some z0:=by simpa [kI,kS] using A1 0 _ rfl
   have k1:DataW.trod enc Tryz.prog W 0 (fun _=>true) true n' 3 [c3]=some z1:=by simpa [kI,kS] using A1 1 _ rfl
   obtain⟨n2,e2,x2,w2⟩:=DataW.trod_string Tryz.underlying9 k0;obtain⟨n3,e3,x3,w3⟩:=DataW.trod_int Tryz.underlying3 k1;obtain rfl:c2=.string n2:=by simpa using e2
   obtain rfl:c3=.int .i64 n3:=by simpa using e3
   subst hz;simp only[Rows.uptoBulk,Rows.uptoBulkAll,List.map_cons,List.map_nil,x2] at A4;have z0:n2.size=n2.data.toList.length:=by rw[Array.length_toList]; rfl
   exact⟨(n0,l,n2,n3),c1,rfl,A6,by show n2.size≤_; omega⟩
theorem zri {H:Type}{enc:TypeId × Value→H}{W:World}{k:Nat}{v:Value}{y:DataW H × List MemPlace}(h:DataW.trod enc Tryz.prog W 0 (fun _=>true) true k 38 [v]=some y)(A9:Rows.uptoBulk y.1≤1048576):
  ∃ l:List Ev,zwd W v l:=by
 rcases Go.Deep.open_slice Tryz.underlying38 h with⟨A3,hx⟩|⟨a,len,cap,m,n,D,Pl,A3,_,hl,hm,A4,rfl,hx⟩
 ·obtain rfl:v=.slice none 0 0:=by simpa using A3
  exact⟨[],none,0,rfl,⟨Nat.le_refl _,Nat.zero_le _⟩,fun i o ho=>by simp at ho⟩
 ·obtain rfl:v=.slice (some a) len cap:=by simpa using A3
  simp only[if_true] at A4;subst A4;rw[zlp] at hx;by_cases A6:len=0
  ·subst A6;exact⟨[],some a,_,rfl,⟨Nat.zero_le _,hm⟩,fun i o ho=>by simp at ho⟩
  obtain⟨_,A8,_⟩:=hx 0 (by omega);obtain⟨k1,k2⟩:=xu A8 (by omega);obtain⟨b,off,spot⟩:=a;obtain rfl:spot=none:=k1;rw[Rows.uptoBulk] at A9;have each:∀ i,i<len→∃ y:Ev,∃ sv,(W.cell? ⟨b,off+i * 4,none⟩=some (.int .i64 y.1)∧W.cell? ⟨b,off+i * 4+1,none⟩=some sv∧W.cell? ⟨b,off+i * 4+2,none⟩=some (.string y.2.2.1)∧W.cell? ⟨b,off+i * 4+3,none⟩=some (.int .i64 y.2.2.2))∧FeedsAt W sv y.2.1∧y.2.2.1.size≤2000000:=by
   intro i hi;obtain⟨cs,A7,ht⟩:=hx i (by omega);have A2:Rows.uptoBulk (D i)≤1048576:=by
    have:=rq (d:=D i) (ds:=(List.range len).map D) (List.mem_map_of_mem (List.mem_range.2 hi));omega
   obtain⟨y,sv,rfl,A1,A0⟩:=zvg ht A2;obtain⟨_,_,hc⟩:=World.cells?_some A7;have g0:=hc 0 (by decide);have g1:=hc 1 (by decide);have g2:=hc 2 (by decide);have g3:=hc 3 (by decide);rw[Go.Deep.add_add] at g0 g1 g2 g3;rw[zfj] at g0 g1 g2 g3;exact⟨y,sv,⟨g0,g1,g2,g3⟩,A1,A0⟩
  obtain⟨f,hf⟩:=Go.Deep.choose_lt each;refine⟨(List.range len).map f,some ⟨b,off,none⟩,_,by simp,⟨by simpa using hl,hm⟩,fun i x hx=>?_⟩;rw[List.getElem?_map] at hx;obtain⟨j,hj,rfl⟩:=Option.map_eq_some_iff.1 hx;obtain⟨A5,e⟩:=List.getElem?_eq_some_iff.1 hj;rw[List.getElem_range] at e;subst e;obtain⟨sv,hc,A1,A0⟩:=hf i (by simpa using A5);exact⟨b,off,sv,rfl,k2,hc,A1,A0⟩
end
end Go.Proofs.YtanlmbbalamgkaaGreatDoor
