import Derived.Test.YthocbeghnkacnaaGreatDoorT00
import Derived.WalkKit
import Derived.ProofKit
import Derived.Lib.LaidU8
import Derived.Lay
import Derived.ChangeSame
import Derived.ChangeVars
import Derived.JoinedOf
import Derived.RowKit
import Derived.RowKitTokens
import Derived.LaidLaws
import Derived.Stop.Joined
import Derived.OpenShut
import Derived.ChangeArms
import Derived.ChangeAt
set_option linter.unusedVariables false
set_option linter.unusedSimpArgs false
set_option linter.unnecessarySimpa false
set_option maxRecDepth 100000
set_option maxHeartbeats 16000000
namespace Go.Am
open Go Go.RowKit
mutual
def flatV:DataW Unit->List Value
 | .lit l=>[l.value]
 | .agg l=>flatVs l
 | _=>[]
def flatVs:List (DataW Unit)->List Value
 | []=>[]
 | d :: r=>flatV d ++ flatVs r
end
mutual
def flatB (P:Program)(t:TypeId):DataW Unit->Bool
 | .lit l=>match l with
  | .int k _=>match P.underlying t with
   | some (.int _)=>true
   | _=>false
  | .bool _=>match P.underlying t with
   | some .bool=>true
   | _=>false
  | .string _=>match P.underlying t with
   | some .string=>true
   | _=>false
  | _=>false
 | .agg l=>match P.underlying t with
  | some (.struct fs)=>fieldsB P 0 (P.cellsOf t) fs.toList l
  | some (.array n e)=>if Nat.beq (n*P.cellsOf e) (P.cellsOf t) then elemsB P e (P.cellsOf e) l else false
  | _=>false
 | _=>false
def fieldsB (P:Program)(off tot:Nat):List Field->List (DataW Unit)->Bool
 | [],[]=>Nat.beq off tot
 | f :: fs,d :: ds=>if Nat.beq f.offset off then(if Nat.beq (P.cellsOf f.type) (flatV d).length then(if flatB P f.type d then fieldsB P (off+(flatV d).length) tot fs ds else false) else false) else false
 | _,_=>false
def elemsB (P:Program)(e:TypeId)(k:Nat):List (DataW Unit)->Bool
 | []=>true
 | d :: ds=>if Nat.beq k (flatV d).length then(if flatB P e d then elemsB P e k ds else false) else false
end
theorem cut_next {α:Type}{l a b:List α}{off k:Nat}(h1:(l.drop off).take k=a)(h2:l.drop (off+k)=b):l.drop off=a ++ b:=by
 rw[<-h1,<-h2,<-List.drop_drop];exact(List.take_append_drop k _).symm
mutual
theorem flat_of {P:Program}{w:World}:∀(d:DataW Unit) (t:TypeId) (fuel:Nat) (cs:List Value) (p:List MemPlace),flatB P t d=true->DataW.trod (fun _=>()) P w 0 (fun _=>true) false fuel t cs=some (d,p)->cs=flatV d
 | .lit l,t,fuel,cs,p,hb,h=>by
  simp only[flatB] at hb;split at hb
  ·split at hb
   ·rename_i hu
    obtain⟨m,h1,h2,_⟩:=DataW.trod_int hu h;simp only[Prod.mk.injEq,DataW.lit.injEq,Lit.int.injEq] at h2;obtain⟨⟨rfl,rfl⟩,_⟩:=h2;simp[flatV,h1,Lit.value]
   ·cases hb
  ·split at hb
   ·rename_i hu
    obtain⟨m,h1,h2⟩:=DataW.trod_bool hu h;simp only[Prod.mk.injEq,DataW.lit.injEq,Lit.bool.injEq] at h2;obtain⟨rfl,_⟩:=h2;simp[flatV,h1,Lit.value]
   ·cases hb
  ·split at hb
   ·rename_i hu
    obtain⟨m,h1,h2,_⟩:=DataW.trod_string hu h;simp only[Prod.mk.injEq,DataW.lit.injEq,Lit.string.injEq] at h2;obtain⟨rfl,_⟩:=h2;simp[flatV,h1,Lit.value]
   ·cases hb
  ·cases hb
 | .agg l,t,fuel,cs,p,hb,h=>by
  simp only[flatB] at hb;split at hb
  ·rename_i fs hu
   obtain⟨xs,n,rfl,hx,hl,hxl,hall⟩:=DataW.trod_struct hu h;have hxs:xs.map (·.1)=l:=by
    have:=congrArg Prod.fst hx;simpa using this.symm
   have:=fields_of l fs.toList 0 (P.cellsOf t) n cs xs hb hl hxs (fun i f hf=>hall i f (by simpa using hf));simpa [flatV] using this
  ·rename_i n e hu
   split at hb
   ·rename_i hn
    have hn:=Nat.eq_of_beq_eq_true hn;obtain⟨xs,m,rfl,hx,hl,hxl,hall⟩:=DataW.trod_array hu h;have hxs:xs.map (·.1)=l:=by
     have:=congrArg Prod.fst hx;simpa using this.symm
    have:=elems_of l e (P.cellsOf e) m cs xs 0 hb (by rw[hl,<-hn,<-hxl];simp) hxs (fun i hi=>by
     have:=hall i (by omega);simpa using this)
    simpa [flatV] using this
   ·cases hb
  ·cases hb
 | .nil,t,fuel,cs,p,hb,h=>by simp[flatB] at hb
 | .ptr _,t,fuel,cs,p,hb,h=>by simp[flatB] at hb
 | .slice _ _,t,fuel,cs,p,hb,h=>by simp[flatB] at hb
 | .iface _ _,t,fuel,cs,p,hb,h=>by simp[flatB] at hb
 | .map _,t,fuel,cs,p,hb,h=>by simp[flatB] at hb
 | .held _,t,fuel,cs,p,hb,h=>by simp[flatB] at hb
theorem fields_of {P:Program}{w:World}:∀(ds:List (DataW Unit)) (fs:List Field) (off tot n:Nat) (cs:List Value) (xs:List (DataW Unit × List MemPlace)),fieldsB P off tot fs ds=true->cs.length=tot->xs.map (·.1)=ds ->
  (∀(i:Nat) (f:Field),fs[i]?=some f->DataW.trod (fun _=>()) P w 0 (fun _=>true) false n f.type ((cs.drop f.offset).take (P.cellsOf f.type))=xs[i]?)->cs.drop off=flatVs ds
 | [],fs,off,tot,n,cs,xs,hb,hl,hx,hall=>by
  cases fs with
  | nil=>
   simp only[fieldsB] at hb;have:=Nat.eq_of_beq_eq_true hb;simp[flatVs];omega
  | cons f fs=>simp[fieldsB] at hb
 | d :: ds,fs,off,tot,n,cs,xs,hb,hl,hx,hall=>by
  cases fs with
  | nil=>simp[fieldsB] at hb
  | cons f fs=>
   simp only[fieldsB] at hb;split at hb
   ·rename_i e1
    have e1:=Nat.eq_of_beq_eq_true e1;split at hb
    ·rename_i e2
     have e2:=Nat.eq_of_beq_eq_true e2;split at hb
     ·rename_i e3
      cases xs with
      | nil=>cases hx
      | cons x xs=>
       simp only[List.map_cons,List.cons.injEq] at hx;obtain⟨hx1,hx2⟩:=hx;have h0:=hall 0 f rfl;rw[e1] at h0;have h0':DataW.trod (fun _=>()) P w 0 (fun _=>true) false n f.type ((cs.drop off).take (P.cellsOf f.type))=some (d,x.2):=by
        rw[h0,<-hx1];rfl
       have k1:=flat_of d f.type n _ _ e3 h0';rw[e2] at k1;have k2:=fields_of ds fs (off+(flatV d).length) tot n cs xs hb hl hx2 (fun i g hg=>by
        have:=hall (i+1) g (by simpa using hg);simpa using this)
       simp only[flatVs];exact cut_next k1 k2
     ·cases hb
    ·cases hb
   ·cases hb
theorem elems_of {P:Program}{w:World}:∀(ds:List (DataW Unit)) (e:TypeId) (k m:Nat) (cs:List Value) (xs:List (DataW Unit × List MemPlace)) (i0:Nat),elemsB P e k ds=true->cs.length=(i0+xs.length)*k->xs.map (·.1)=ds ->
  (∀(i:Nat),i<xs.length->DataW.trod (fun _=>()) P w 0 (fun _=>true) false m e ((cs.drop ((i0+i)*k)).take k)=xs[i]?)->cs.drop (i0*k)=flatVs ds
 | [],e,k,m,cs,xs,i0,hb,hl,hx,hall=>by
  have:xs=[]:=by simpa using hx
  subst this;simp only[flatVs];simp at hl;simp[hl]
 | d :: ds,e,k,m,cs,xs,i0,hb,hl,hx,hall=>by
  simp only[elemsB] at hb;split at hb
  ·rename_i e1
   have e1:=Nat.eq_of_beq_eq_true e1;split at hb
   ·rename_i e3
    cases xs with
    | nil=>cases hx
    | cons x xs=>
     simp only[List.map_cons,List.cons.injEq] at hx;obtain⟨hx1,hx2⟩:=hx;have h0:=hall 0 (by simp);have h0':DataW.trod (fun _=>()) P w 0 (fun _=>true) false m e ((cs.drop (i0*k)).take k)=some (d,x.2):=by
      rw[Nat.add_zero] at h0;rw[h0,<-hx1];rfl
     have k1:=flat_of d e m _ _ e3 h0';have k2:=elems_of ds e k m cs xs (i0+1) hb (by rw[hl];simp only[List.length_cons];congr 1;omega) hx2 (fun i hi=>by
      have:=hall (i+1) (by simpa using hi);have e:i0+(i+1)=i0+1+i:=by omega
      rw[e] at this;simpa using this)
     simp only[flatVs];refine cut_next k1 ?_;rw[<-k2]
     congr 1
     rw[Nat.add_mul];omega
   ·cases hb
  ·cases hb
end
theorem reads_flat {P:Program}{w:World}{n:String}{d:DataW Unit}{g:Nat}{t:TypeId}(h:Lib.VarReads P w n d)(hg:P.globalNamed n=some g)(ht:(P.globals[g]?).map (·.type)=some t)(hb:flatB P t d=true) :
  ∀(j:Nat) (v:Value),(flatV d)[j]?=some v->w.cell? ⟨g,j,none⟩=some v:=by
 obtain⟨g',t',cs,fuel,p,h1,h2,h3,h4⟩:=h;rw[hg] at h1;cases h1;rw[ht] at h2;cases h2;have hc:=flat_of d t fuel _ p hb h4;intro j v hj;have:=World.var?_cell hg h3 j;rw[this];rw[<-hc] at hj;simpa using hj
end Go.Am
