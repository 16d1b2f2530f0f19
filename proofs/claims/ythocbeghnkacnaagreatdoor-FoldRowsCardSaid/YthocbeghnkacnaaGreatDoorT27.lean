import Derived.Test.YthocbeghnkacnaaGreatDoorT00
import Derived.Lib.Hide
set_option linter.unusedVariables false
set_option linter.unusedSimpArgs false
set_option linter.unnecessarySimpa false
set_option maxRecDepth 100000
set_option maxHeartbeats 16000000
namespace Go.Fld
def zag:List Nat->Nat
 | []=>0
 | x :: r=>x+4294967296*zag r
def za3 (l:List Nat):Prop:=∀x ∈ l,x<4294967296
def zbT (l:List Nat):Prop:=za3 l/\l.getLast?≠some 0
theorem zd7 (i:Nat):2 ^ (32*(i+1))=4294967296*2 ^ (32*i):=by rw[show 32*(i+1)=32+32*i by omega,Nat.pow_add]
theorem zeV:∀l m:List Nat,zag (l ++ m)=zag l+2 ^ (32*l.length)*zag m
 | [],m=>by simp[zag]
 | x :: r,m=>by
  rw[List.cons_append,zag,zag,zeV r m,List.length_cons,zd7,Nat.mul_add,Nat.mul_assoc];omega
theorem zdV:∀ {l:List Nat},za3 l->zag l<2 ^ (32*l.length)
 | [],_=>by simp[zag]
 | x :: r,h=>by
  have h1:=h x (by simp);have h2:=zdV (l:=r) fun y hy=>h y (by simp[hy]);rw[zag,List.length_cons,zd7];omega
theorem zjD {l:List Nat}(h:zbT l)(hl:l≠[]):2 ^ (32*(l.length-1))<=zag l:=by
 obtain⟨m,x,rfl⟩:∃m x,l=m ++ [x]:=⟨l.dropLast,l.getLast hl,(List.dropLast_concat_getLast hl).symm⟩;have hx:x≠0:=by
  have:=h.2;intro e;apply this;subst e;simp
 rw[zeV,List.length_append];show 2 ^ (32*(m.length+1-1))<=_;rw[Nat.add_sub_cancel];have:2 ^ (32*m.length)*1<=2 ^ (32*m.length)*zag [x]:=Nat.mul_le_mul_left _ (by simp[zag];omega);omega
theorem zpS {l:List Nat}(h:zbT l){k:Nat}(hv:zag l<2 ^ (32*k)):l.length<=k:=by
 by_cases hl:l=[]
 ·subst hl;simp
 ·have h1:=zjD h hl;have h2:32*(l.length-1)<32*k:=(Nat.pow_lt_pow_iff_right (by decide)).1 (Nat.lt_of_le_of_lt h1 hv);omega
theorem zj8 {l:List Nat}(h:zbT l):zag l=0↔l=[]:=by
 constructor
 ·intro e;by_cases hl:l=[]
  ·exact hl
  ·have:=zjD h hl;have:0<2 ^ (32*(l.length-1)):=Nat.pow_pos (by decide);omega
 ·intro e;rw[e];rfl
theorem ziF:∀ {l:List Nat} {i:Nat} (x:Nat),l[i]?=some 0->zag (l.set i x)=zag l+x*2 ^ (32*i)
 | [],i,x,h=>by simp at h
 | y :: r,0,x,h=>by
  have:y=0:=by simpa using h
  subst this;simp[zag];omega
 | y :: r,i+1,x,h=>by
  rw[List.set_cons_succ,zag,zag,ziF x (by simpa using h),zd7,Nat.mul_add];have:x*(4294967296*2 ^ (32*i))=4294967296*(x*2 ^ (32*i)):=by rw[<-Nat.mul_assoc,Nat.mul_comm x,Nat.mul_assoc]
  omega
theorem zcV {l:List Nat}{i:Nat}(h:i<l.length):zag (l.take (i+1))=zag (l.take i)+l[i]*2 ^ (32*i):=by
 rw[List.take_succ_eq_append_getElem h,zeV,List.length_take,Nat.min_eq_left (by omega)];show _+2 ^ (32*i)*(l[i]+4294967296*0)=_;rw[Nat.mul_comm];simp
theorem zhy {l:List Nat}{i:Nat}(h:l.length<=i):l.take (i+1)=l.take i:=by rw[List.take_of_length_le h,List.take_of_length_le (by omega)]
theorem zi7 {l:List Nat}(h:za3 l)(i:Nat){x:Nat}(hx:x<4294967296):za3 (l.set i x):=fun y hy=>by
 rcases List.mem_or_eq_of_mem_set hy with e|e
 ·exact h y e
 ·rw[e];exact hx
theorem ze7 {l:List Nat}(h:za3 l)(i:Nat):za3 (l.take i):=fun y hy=>h y (List.mem_of_mem_take hy)
theorem zlq (n:Nat):za3 (List.replicate n 0):=fun y hy=>by rw[(List.mem_replicate.1 hy).2];decide
theorem zdW:∀n,zag (List.replicate n 0)=0
 | 0=>rfl
 | n+1=>by rw[List.replicate_succ,zag,zdW n]
def zdy (l:List Nat):Nat->Nat
 | 0=>0
 | n+1=>if l[n]?=some 0 then zdy l n else n+1
def zeB (l:List Nat):List Nat:=l.take (zdy l l.length)
theorem zlr (l:List Nat):∀n,n<=l.length->zag (l.take (zdy l n))=zag (l.take n)
 | 0,_=>rfl
 | n+1,h=>by
  unfold zdy;split
  ·rename_i h0
   rw[zlr l n (by omega),zcV (by omega)];have:l[n]=0:=by rw[List.getElem?_eq_getElem (by omega)] at h0;exact Option.some.inj h0
   rw[this];omega
  ·rfl
theorem zj9 (l:List Nat):∀n,n<=l.length->(l.take (zdy l n)).getLast?≠some 0
 | 0,_=>by simp[zdy]
 | n+1,h=>by
  unfold zdy;split
  ·exact zj9 l n (by omega)
  ·rename_i h0
   rw[List.take_succ_eq_append_getElem (by omega)];intro e;rw[List.getLast?_append] at e;simp at e;apply h0;rw[List.getElem?_eq_getElem (by omega),e]
theorem zdp {l:List Nat}(h:za3 l):zbT (zeB l):=⟨ze7 h _,zj9 l _ (Nat.le_refl _)⟩
theorem zem (l:List Nat):zag (zeB l)=zag l:=by
 unfold zeB;rw[zlr l _ (Nat.le_refl _),List.take_length]
theorem zka {a b:List Nat}(ha:za3 a)(hb:za3 b)(hl:a.length=b.length){k:Nat}(hk:k<a.length)(he:a.drop (k+1)=b.drop (k+1))(h:a[k]<b[k]'(by omega)):zag a<zag b:=by
 have e1:a=a.take k ++ (a[k] :: a.drop (k+1)):=by rw[<-List.drop_eq_getElem_cons hk,List.take_append_drop]
 have e2:b=b.take k ++ (b[k]'(by omega) :: b.drop (k+1)):=by rw[<-List.drop_eq_getElem_cons (by omega),List.take_append_drop]
 have h1:=zdV (ze7 ha k);rw[List.length_take,Nat.min_eq_left (by omega)] at h1;have v1:zag a=zag (a.take k)+2 ^ (32*k)*(a[k]+4294967296*zag (a.drop (k+1))):=by
  conv=>lhs;rw[e1]
  rw[zeV,List.length_take,Nat.min_eq_left (by omega)];rfl
 have v2:zag b=zag (b.take k)+2 ^ (32*k)*(b[k]'(by omega)+4294967296*zag (b.drop (k+1))):=by
  conv=>lhs;rw[e2]
  rw[zeV,List.length_take,Nat.min_eq_left (by omega)];rfl
 rw[v1,v2,he];have h2:2 ^ (32*k)*(a[k]+4294967296*zag (b.drop (k+1))+1)<=2 ^ (32*k)*(b[k]'(by omega)+4294967296*zag (b.drop (k+1))):=Nat.mul_le_mul_left _ (by omega);rw[Nat.mul_add _ _ 1] at h2;omega
theorem ze8 {a b:List Nat}(ha:za3 a)(hb:zbT b)(h:a.length<b.length):zag a<zag b:=by
 have h1:=zdV ha;have h2:=zjD hb (by intro e;rw[e] at h;simp at h);have:2 ^ (32*a.length)<=2 ^ (32*(b.length-1)):=Nat.pow_le_pow_right (by decide) (by omega);omega
end Go.Fld
