import Derived.Test.YthocbeghnkacnaaGreatDoorT00
import Derived.WalkKit
import Derived.ProofKit
import Derived.OpenShut
import Derived.ChangeOld
import Derived.Deep.Slices
set_option linter.unusedVariables false
set_option linter.unusedSimpArgs false
set_option linter.unnecessarySimpa false
set_option maxRecDepth 100000
set_option maxHeartbeats 16000000
namespace Go.Fld.Open
open Go.ChangeShapes Go.WideShapes Go.ChangeAt Go.RowKit Go.Deep
theorem add_plain (b off j:Nat):(⟨b,off,none⟩:Addr).add j=⟨b,off+j,none⟩:=by unfold Addr.add;split <;> simp_all
theorem list_of {α:Type}{n:Nat}{p:Nat->α->Prop}(h:∀i,i<n->∃x,p i x):∃l:List α,l.length=n/\∀i (hi:i<l.length),p i l[i]:=by
 induction n with
 | zero=>exact⟨[],rfl,fun i hi=>by simp at hi⟩
 | succ n ih=>
  obtain⟨l,hl,hp⟩:=ih (fun i hi=>h i (by omega));obtain⟨x,hx⟩:=h n (by omega);refine⟨l ++ [x],by simp[hl],fun i hi=>?_⟩;by_cases e:i<l.length
  ·rw[List.getElem_append_left e];exact hp i e
  ·have:i=l.length:=by simp at hi;omega
   subst this;rw[List.getElem_append_right (Nat.le_refl _)];simp[hl];exact hl ▸ hx
theorem mapM_some {α β:Type}{f:α->Option β}:∀ {l:List α} {r:List β},l.mapM f=some r->r.length=l.length/\∀j (h:j<l.length),f l[j]=r[j]?
 | [],r,h=>by simp at h;subst h;simp
 | a :: l,r,h=>by
  rw[List.mapM_cons] at h;cases ha:f a with
  | none=>rw[ha] at h;cases h
  | some b=>
   rw[ha] at h;cases hl:l.mapM f with
   | none=>rw[hl] at h;cases h
   | some r'=>
    rw[hl] at h;obtain rfl:b :: r'=r:=Option.some.inj h;obtain⟨h1,h2⟩:=mapM_some hl;refine⟨by simp[h1],fun j hj=>?_⟩;cases j with
    | zero=>simpa using ha
    | succ j=>simpa using h2 j (by simpa using hj)
theorem cells?_some {w:World}{base:Nat}{a:Addr}{n:Nat}{cs:List Value}(h:w.cells? base a n=some cs):cs.length=n/\∀j,j<n->w.cell? (a.add j)=cs[j]?:=by
 unfold World.cells? at h;split at h
 ·obtain⟨h1,h2⟩:=mapM_some h;refine⟨by simpa using h1,fun j hj=>?_⟩;have h3:=h2 j (by simpa using hj);rw[List.getElem_range] at h3;exact h3
 ·cases h
theorem spot_of_cell {w:World}{a:Addr}{v:Value}(h:w.cell? a=some v):∃b off,a=⟨b,off,none⟩:=by
 obtain⟨b,off,sp⟩:=a;cases sp with
 | none=>exact⟨b,off,rfl⟩
 | some s=>
  exfalso
  unfold World.cell? at h;split at h <;> simp at h
section
variable {H:Type} {enc:TypeId × Value->H} {P:Program} {w:World}
end
end Go.Fld.Open
