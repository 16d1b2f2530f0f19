import Derived.Test.YthocbeghnkacnaaGreatDoorT09
import Derived.Test.YthocbeghnkacnaaGreatDoorT11
import Derived.Test.YthocbeghnkacnaaGreatDoorT12
import Derived.Lib.SmallJoins
set_option linter.unusedVariables false
set_option linter.unusedSimpArgs false
set_option linter.unnecessarySimpa false
set_option maxRecDepth 100000
set_option maxHeartbeats 16000000
namespace Go.Fld
open Go Go.ChangeShapes Go.WideShapes Go.ChangeAt Go.RowKit Go.Deep Go.Proofs
theorem FdsC.mk' {w:World}{p:Option Addr}:∀ {l:List Fd} {off:Nat},(∀(i:Nat) (hi:i<l.length),∃b o cs,p=some ⟨b,o,none⟩/\(∀(j:Nat) (u:Value),cs[j]?=some u->w.cell? ⟨b,o+(off+7*i)+j,none⟩=some u)/\FdAt w l[i] cs)->FdsC w p off l
 | [],off,h=>trivial
 | f :: r,off,h=>by
  simp only[FdsC];refine⟨?_,FdsC.mk' (l:=r) (off:=off+7) fun i hi=>?_⟩
  ·have:=h 0 (by simp);simpa using this
  ·obtain⟨b,o,cs,h1,h2,h3⟩:=h (i+1) (by simpa using hi);refine⟨b,o,cs,h1,fun j u hj=>?_,by simpa using h3⟩;have:=h2 j u hj
   rwa [show o+(off+7*(i+1))+j=o+(off+7+7*i)+j from by omega] at this
theorem zcF {x:Int}(h:(Lit.int .i64 x).wf=true):zah x:=by
 simp[Lit.wf] at h;have e:IntKind.i64.min=-9223372036854775808:=rfl;rw[e] at h;exact h
section
variable {H:Type} {enc:TypeId × Value->H} {w:World}
theorem zpq:∀(n:Nat) (v:Value) (x:DataW H × List MemPlace),DataW.trod enc Tryz.prog w 0 (fun _=>true) true n 22 [v]=some x->∃l:List Fd,FdsAt w l v:=by
 intro n
 induction n using Nat.strongRecOn with
 | _ n ih=>
 intro v x h;have hC:Tryz.prog.cellsOf 26=7:=by kernel_rfl
 have hC9:Tryz.prog.cellsOf 9=1:=by kernel_rfl
 have hC4:Tryz.prog.cellsOf 4=1:=by kernel_rfl
 have hC3:Tryz.prog.cellsOf 3=1:=by kernel_rfl
 have hC57:Tryz.prog.cellsOf 24=5:=by kernel_rfl
 have hC23:Tryz.prog.cellsOf 22=1:=by kernel_rfl
 rcases DataW.trod_slice Tryz.underlying22 h with⟨hcs,_⟩|⟨a,len,cap,elems,rest,m,rfl,hcs,rfl,hb,hl,hm,hlen,hel,_,_⟩
 ·simp at hcs;subst hcs;exact⟨[],none,0,rfl,Nat.le_refl _,Nat.zero_le _,trivial⟩
 ·simp at hcs;subst hcs;rw[hC] at hel;have hap:0<len->∃b o,a=⟨b,o,none⟩:=by
   intro h0;have h1:=hel 0 h0;rw[List.getElem?_eq_getElem (by omega)] at h1;obtain⟨cs,h2,h3⟩:=Option.bind_eq_some_iff.1 h1;obtain⟨hcl,hcc⟩:=Open.cells?_some h2;have h4:=hcc 0 (by omega);rw[show(a.add (0*7)).add 0=a from by simp[Addr.add],List.getElem?_eq_getElem (by omega)] at h4;exact Open.spot_of_cell h4
  have key:∀i,i<len->∃y:Fd × List Value,(∃b o,a=⟨b,o,none⟩/\∀(j:Nat) (u:Value),y.2[j]?=some u->w.cell? ⟨b,o+7*i+j,none⟩=some u)/\FdAt w y.1 y.2:=by
   intro i hi;have h1:=hel i hi;rw[List.getElem?_eq_getElem (by omega)] at h1;obtain⟨cs,h2,h3⟩:=Option.bind_eq_some_iff.1 h1;obtain⟨hcl,hcc⟩:=Open.cells?_some h2;obtain⟨xs,k,rfl,_,_,hxl,hf⟩:=DataW.trod_struct Tryz.underlying26 h3;obtain⟨c0,c1,c2,c3,c4,c5,c6,rfl⟩:∃c0 c1 c2 c3 c4 c5 c6,cs=[c0,c1,c2,c3,c4,c5,c6]:=by
    match cs,hcl with
    | [a,b,c,d,e,f,g],_=>exact⟨a,b,c,d,e,f,g,rfl⟩
   obtain⟨y0,y1,y2,rfl⟩:∃y0 y1 y2,xs=[y0,y1,y2]:=by
    match xs,hxl with
    | [a,b,c],_=>exact⟨a,b,c,rfl⟩
   have f0:DataW.trod enc Tryz.prog w 0 (fun _=>true) true k 9 (([c0,c1,c2,c3,c4,c5,c6].drop 0).take (Tryz.prog.cellsOf 9))=some y0:=hf 0 _ rfl;have f1:DataW.trod enc Tryz.prog w 0 (fun _=>true) true k 4 (([c0,c1,c2,c3,c4,c5,c6].drop 1).take (Tryz.prog.cellsOf 4))=some y1:=hf 1 _ rfl;have f2:DataW.trod enc Tryz.prog w 0 (fun _=>true) true k 24 (([c0,c1,c2,c3,c4,c5,c6].drop 2).take (Tryz.prog.cellsOf 24))=some y2:=hf 2 _ rfl;rw[hC9] at f0;rw[hC4] at f1;rw[hC57] at f2;obtain⟨s,e0,_,hs⟩:=DataW.trod_string (x:=y0) Tryz.underlying9 f0;obtain⟨b,e1,_⟩:=DataW.trod_bool (x:=y1) Tryz.underlying4 f1;obtain⟨zs,k',rfl,_,_,hzl,hg⟩:=DataW.trod_struct (x:=y2) Tryz.underlying24 f2;obtain⟨z0,z1,z2,z3,z4,rfl⟩:∃z0 z1 z2 z3 z4,zs=[z0,z1,z2,z3,z4]:=by
    match zs,hzl with
    | [a,b,c,d,e],_=>exact⟨a,b,c,d,e,rfl⟩
   have g0:DataW.trod enc Tryz.prog w 0 (fun _=>true) true k' 3 (([c2,c3,c4,c5,c6].drop 0).take (Tryz.prog.cellsOf 3))=some z0:=hg 0 _ rfl;rw[hC3] at g0;have g1:DataW.trod enc Tryz.prog w 0 (fun _=>true) true k' 3 (([c2,c3,c4,c5,c6].drop 1).take (Tryz.prog.cellsOf 3))=some z1:=hg 1 _ rfl;rw[hC3] at g1;have g2:DataW.trod enc Tryz.prog w 0 (fun _=>true) true k' 3 (([c2,c3,c4,c5,c6].drop 2).take (Tryz.prog.cellsOf 3))=some z2:=hg 2 _ rfl;rw[hC3] at g2;have g3:DataW.trod enc Tryz.prog w 0 (fun _=>true) true k' 3 (([c2,c3,c4,c5,c6].drop 3).take (Tryz.prog.cellsOf 3))=some z3:=hg 3 _ rfl;rw[hC3] at g3;have g4:DataW.trod enc Tryz.prog w 0 (fun _=>true) true k' 22 (([c2,c3,c4,c5,c6].drop 4).take (Tryz.prog.cellsOf 22))=some z4:=hg 4 _ rfl;rw[hC23] at g4;obtain⟨n0,q0,_,w0⟩:=DataW.trod_int (x:=z0) Tryz.underlying3 g0;obtain⟨n1,q1,_,w1⟩:=DataW.trod_int (x:=z1) Tryz.underlying3 g1;obtain⟨n2,q2,_,w2⟩:=DataW.trod_int (x:=z2) Tryz.underlying3 g2;obtain⟨n3,q3,_,w3⟩:=DataW.trod_int (x:=z3) Tryz.underlying3 g3;obtain⟨L,p,cp,e6,hl6,hm6,hC6⟩:=ih k' (by omega) c6 z4 g4;simp at e0 e1 q0 q1 q2 q3;subst e0 e1 q0 q1 q2 q3 e6;obtain⟨b',o',rfl⟩:=hap (by omega);refine⟨(.mk s b n0 n1 n2 n3 L,[.string s,.bool b,.int .i64 n0,.int .i64 n1,.int .i64 n2,.int .i64 n3,.slice p L.length cp]),⟨b',o',rfl,fun j u hj=>?_⟩,?_⟩
   ·have hj7:=(List.getElem?_eq_some_iff.1 hj).1;have:=hcc j (by simpa using hj7);rw[Open.add_plain,Open.add_plain] at this;rw[show o'+7*i+j=o'+i*7+j from by omega,this];exact hj
   ·simp only[FdAt];exact⟨hs,zcF w0,zcF w1,zcF w2,zcF w3,p,cp,rfl,hl6,hm6,hC6⟩
  obtain⟨ys,hyl,hy⟩:=Open.list_of key;refine⟨ys.map (·.1),some a,cap,by simp[hyl],by simpa [hyl] using hl,hm,FdsC.mk' fun i hi=>?_⟩;obtain⟨⟨b,o,rfl,h2⟩,h3⟩:=hy i (by simpa using hi);refine⟨b,o,(ys[i]'(by simpa using hi)).2,rfl,fun j u hj=>?_,by simpa using h3⟩;rw[Nat.zero_add];exact h2 j u hj
end
end Go.Fld
namespace Go.Fld
open Go Go.RowKit Go.Proofs Go.ChangeShapes Go.WideShapes Go.ChangeAt Go.Shelf
theorem zjV {w:World}{b o:Nat}:∀ {L:List Fd} {off:Nat},FdsC w (some ⟨b,o,none⟩) off L ->
  ∃css:List (List Value),css.length=L.length/\(∀cs ∈ css,cs.length=7/\∀u ∈ cs,u.oneCell'=true)/\(∀(i:Nat) (h:i<L.length) (h':i<css.length),FdAt w L[i] css[i])/\∀(j:Nat) (u:Value),(css.flatMap id)[j]?=some u->w.cell? ⟨b,o+off+j,none⟩=some u
 | [],off,h=>⟨[],rfl,(fun _ h=>by cases h),(fun i h=>absurd h (Nat.not_lt_zero _)),(fun j u hj=>by cases hj)⟩
 | f :: r,off,h=>by
  simp only[FdsC] at h;obtain⟨⟨b',o',cs,e,h2,h3⟩,h4⟩:=h;cases e;obtain⟨css,c1,c2,c3,c4⟩:=zjV h4;obtain⟨p,cap,hs,_⟩:=h3.shape;refine⟨cs :: css,by simp[c1],fun x hx=>?_,fun i hi hi'=>?_,fun j u hj=>?_⟩
  ·rcases List.mem_cons.1 hx with e|e
   ·rw[e,hs];exact⟨rfl,fun u hu=>by simp at hu;rcases hu with rfl|rfl|rfl|rfl|rfl|rfl|rfl <;> rfl⟩
   ·exact c2 x e
  ·cases i with
   | zero=>exact h3
   | succ i=>exact c3 i (by simpa using hi) (by simpa using hi')
  ·have h7:cs.length=7:=by rw[hs];rfl
   simp only[List.flatMap_cons,id] at hj;by_cases hlt:j<7
   ·rw[List.getElem?_append_left (by omega)] at hj;exact h2 j u hj
   ·rw[List.getElem?_append_right (by omega),h7] at hj;have:=c4 (j-7) u hj
    rwa [show o+(off+7)+(j-7)=o+off+j by omega] at this
end Go.Fld
