import Derived.Test.YthocbeghnkacnaaGreatDoorT06
import Derived.RangeFuncBox
set_option linter.unusedVariables false
set_option linter.unusedSimpArgs false
set_option linter.unnecessarySimpa false
set_option maxRecDepth 100000
set_option maxHeartbeats 16000000
namespace Go.Fld
open Go Go.RowKit Go.Proofs Go.ChangeShapes Go.WideShapes Go.ChangeAt Go.Shelf
attribute [local go_sem] Oper.semAt_some
def zrn (w:World)(l:List (ByteArray × ByteArray))(v:Value):Prop:=∃p cap,v=.slice p l.length cap/\l.length<=cap/\cap<=maxLen /\
 ∀(i:Nat) (hi:i<l.length),∃b o,p=some ⟨b,o,none⟩/\w.cell? ⟨b,o+i*2,none⟩=some (.string l[i].1)/\w.cell? ⟨b,o+i*2+1,none⟩=some (.string l[i].2)/\l[i].1.size<=maxLen/\l[i].2.size<=maxLen
def zf9 (l:List (ByteArray × ByteArray)):List (Nat × Nat):=l.map fun n=>(n.1.size,n.2.size)
def zes (ids:List Int)(l:List Node):List Int:=l.foldl zfh ids
theorem zdd {a:Nat}{ids:List Int}{n:Node}{l:List Node}(h:za7 n a ids=0):zbm a ids (n :: l)=zbm (a+1) (zfh ids n) l:=by
 show(if za7 n a ids=0 then _ else _)=_;rw[if_pos h]
theorem zdO {a:Nat}{ids:List Int}{n:Node}{l:List Node}(h:za7 n a ids≠0):zbm a ids (n :: l)=za7 n a ids:=by
 show(if za7 n a ids=0 then _ else _)=_;rw[if_neg h]
theorem zjP:∀(a:Nat) (ids:List Int) (l r:List Node),zbm a ids l=0->zbm a ids (l ++ r)=zbm (a+l.length) (zes ids l) r
 | a,ids,[],r,_=>by simp[zes]
 | a,ids,n :: l,r,h0=>by
  by_cases h:za7 n a ids=0
  ·rw[List.cons_append,zdd h];rw[zdd h] at h0;rw[zjP (a+1) (zfh ids n) l r h0,List.length_cons,show a+(l.length+1)=a+1+l.length by omega];rfl
  ·rw[zdO h] at h0;exact absurd h0 h
theorem zh4:∀(a:Nat) (ids:List Int) (l r:List Node),zbm a ids l≠0->zbm a ids (l ++ r)=zbm a ids l
 | a,ids,[],r,h=>absurd rfl h
 | a,ids,n :: l,r,h0=>by
  by_cases h:za7 n a ids=0
  ·rw[List.cons_append,zdd h,zdd h];rw[zdd h] at h0;exact zh4 (a+1) (zfh ids n) l r h0
  ·rw[List.cons_append,zdO h,zdO h]
theorem ziN (a:Nat)(ids:List Int)(n:Node):zbm a ids [n]=za7 n a ids:=by
 by_cases h:za7 n a ids=0
 ·rw[zdd h,h];rfl
 ·rw[zdO h]
theorem zl0 {n:Node}{a:Nat}{ids:List Int}(h:256<=a):za7 n a ids≠0:=by
 unfold za7;by_cases hd:64<n.d
 ·rw[if_pos hd];decide
 ·rw[if_neg hd,if_pos h];decide
theorem ziO:∀(l:List Node) (a:Nat) (ids:List Int),zbm a ids l=0->l=[]\/a+l.length<=256
 | [],_,_,_=>.inl rfl
 | n :: l,a,ids,h=>by
  right;by_cases hw:za7 n a ids=0
  ·rw[zdd hw] at h;have h256:a<256:=by
    rcases Nat.lt_or_ge a 256 with h|h
    ·exact h
    ·exact absurd hw (zl0 h)
   rcases ziO l (a+1) _ h with rfl|h
   ·simp;omega
   ·simp only[List.length_cons];omega
  ·rw[zdO hw] at h;exact absurd h hw
theorem zkn {p l:List Node}(h:p <+: l)(hn:zbm 0 [] p≠0):zbm 0 [] l=zbm 0 [] p:=by
 obtain⟨r,rfl⟩:=h;exact zh4 _ _ _ _ hn
theorem zh5 (ids:List Int)(l:List Node)(n:Node):zes ids (l ++ [n])=zfh (zes ids l) n:=by simp[zes]
def BoxN (W:World)(b:Nat)(t:TypeId)(l:List Value):Prop:=W.heap[b]?=some (.cells l.toArray t (0,0))
theorem BoxN.lt {W:World}{b:Nat}{t:TypeId}{l:List Value}(h:BoxN W b t l):b<W.heap.size:=(Array.getElem?_eq_some_iff.1 h).1
theorem BoxN.row {W:World}{b:Nat}{t:TypeId}{l:List Value}(h:BoxN W b t l):RowAt W b l:=fun j u hj=>by
 unfold World.cell?;rw[show W.heap[b]?=_ from h];simpa using hj
theorem BoxN.frozen {W:World}{b:Nat}{t:TypeId}{l:List Value}(h:BoxN W b t l)(i:Nat):W.frozen? ⟨b,i,none⟩=false:=by simp[World.frozen?,show W.heap[b]?=_ from h]
theorem rr3 {w:World}{b:Nat}{a0 a1 a2:Value}{t:List Value}(h:RowAt w b (a0 :: a1 :: a2 :: t)):w.cell? ⟨b,0,none⟩=some a0/\w.cell? ⟨b,1,none⟩=some a1/\w.cell? ⟨b,2,none⟩=some a2:=⟨h 0 _ rfl,h 1 _ rfl,h 2 _ rfl⟩
theorem rr4 {w:World}{b:Nat}{a0 a1 a2 a3:Value}{t:List Value}(h:RowAt w b (a0 :: a1 :: a2 :: a3 :: t)):w.cell? ⟨b,0,none⟩=some a0/\w.cell? ⟨b,1,none⟩=some a1/\w.cell? ⟨b,2,none⟩=some a2/\w.cell? ⟨b,3,none⟩=some a3:=⟨h 0 _ rfl,h 1 _ rfl,h 2 _ rfl,h 3 _ rfl⟩
theorem rr5 {w:World}{b:Nat}{a0 a1 a2 a3 a4:Value}{t:List Value}(h:RowAt w b (a0 :: a1 :: a2 :: a3 :: a4 :: t)):w.cell? ⟨b,0,none⟩=some a0/\w.cell? ⟨b,1,none⟩=some a1/\w.cell? ⟨b,2,none⟩=some a2/\w.cell? ⟨b,3,none⟩=some a3/\w.cell? ⟨b,4,none⟩=some a4:=⟨h 0 _ rfl,h 1 _ rfl,h 2 _ rfl,h 3 _ rfl,h 4 _ rfl⟩
theorem rr6 {w:World}{b:Nat}{a0 a1 a2 a3 a4 a5:Value}{t:List Value}(h:RowAt w b (a0 :: a1 :: a2 :: a3 :: a4 :: a5 :: t)):w.cell? ⟨b,0,none⟩=some a0/\w.cell? ⟨b,1,none⟩=some a1/\w.cell? ⟨b,2,none⟩=some a2/\w.cell? ⟨b,3,none⟩=some a3/\w.cell? ⟨b,4,none⟩=some a4/\w.cell? ⟨b,5,none⟩=some a5:=⟨h 0 _ rfl,h 1 _ rfl,h 2 _ rfl,h 3 _ rfl,h 4 _ rfl,h 5 _ rfl⟩
theorem rr7 {w:World}{b:Nat}{a0 a1 a2 a3 a4 a5 a6:Value}{t:List Value}(h:RowAt w b (a0 :: a1 :: a2 :: a3 :: a4 :: a5 :: a6 :: t)):w.cell? ⟨b,0,none⟩=some a0/\w.cell? ⟨b,1,none⟩=some a1/\w.cell? ⟨b,2,none⟩=some a2/\w.cell? ⟨b,3,none⟩=some a3/\w.cell? ⟨b,4,none⟩=some a4/\w.cell? ⟨b,5,none⟩=some a5/\w.cell? ⟨b,6,none⟩=some a6:=⟨h 0 _ rfl,h 1 _ rfl,h 2 _ rfl,h 3 _ rfl,h 4 _ rfl,h 5 _ rfl,h 6 _ rfl⟩
theorem rr8 {w:World}{b:Nat}{a0 a1 a2 a3 a4 a5 a6 a7:Value}{t:List Value}(h:RowAt w b (a0 :: a1 :: a2 :: a3 :: a4 :: a5 :: a6 :: a7 :: t)):w.cell? ⟨b,0,none⟩=some a0/\w.cell? ⟨b,1,none⟩=some a1/\w.cell? ⟨b,2,none⟩=some a2/\w.cell? ⟨b,3,none⟩=some a3/\w.cell? ⟨b,4,none⟩=some a4/\w.cell? ⟨b,5,none⟩=some a5/\w.cell? ⟨b,6,none⟩=some a6/\w.cell? ⟨b,7,none⟩=some a7:=⟨h 0 _ rfl,h 1 _ rfl,h 2 _ rfl,h 3 _ rfl,h 4 _ rfl,h 5 _ rfl,h 6 _ rfl,h 7 _ rfl⟩
theorem rr9 {w:World}{b:Nat}{a0 a1 a2 a3 a4 a5 a6 a7 a8:Value}{t:List Value}(h:RowAt w b (a0 :: a1 :: a2 :: a3 :: a4 :: a5 :: a6 :: a7 :: a8 :: t)):w.cell? ⟨b,0,none⟩=some a0/\w.cell? ⟨b,1,none⟩=some a1/\w.cell? ⟨b,2,none⟩=some a2/\w.cell? ⟨b,3,none⟩=some a3/\w.cell? ⟨b,4,none⟩=some a4/\w.cell? ⟨b,5,none⟩=some a5/\w.cell? ⟨b,6,none⟩=some a6/\w.cell? ⟨b,7,none⟩=some a7/\w.cell? ⟨b,8,none⟩=some a8:=⟨h 0 _ rfl,h 1 _ rfl,h 2 _ rfl,h 3 _ rfl,h 4 _ rfl,h 5 _ rfl,h 6 _ rfl,h 7 _ rfl,h 8 _ rfl⟩
theorem zrz {w:World}{b:Nat}{a0 a1 a2 a3 a4 a5 a6 a7 a8 a9:Value}{t:List Value}(h:RowAt w b (a0 :: a1 :: a2 :: a3 :: a4 :: a5 :: a6 :: a7 :: a8 :: a9 :: t)):w.cell? ⟨b,0,none⟩=some a0/\w.cell? ⟨b,1,none⟩=some a1/\w.cell? ⟨b,2,none⟩=some a2/\w.cell? ⟨b,3,none⟩=some a3/\w.cell? ⟨b,4,none⟩=some a4/\w.cell? ⟨b,5,none⟩=some a5/\w.cell? ⟨b,6,none⟩=some a6/\w.cell? ⟨b,7,none⟩=some a7/\w.cell? ⟨b,8,none⟩=some a8/\w.cell? ⟨b,9,none⟩=some a9:=⟨h 0 _ rfl,h 1 _ rfl,h 2 _ rfl,h 3 _ rfl,h 4 _ rfl,h 5 _ rfl,h 6 _ rfl,h 7 _ rfl,h 8 _ rfl,h 9 _ rfl⟩
theorem zrA {w:World}{b:Nat}{a0 a1 a2 a3 a4 a5 a6 a7 a8 a9 a10:Value}{t:List Value}(h:RowAt w b (a0 :: a1 :: a2 :: a3 :: a4 :: a5 :: a6 :: a7 :: a8 :: a9 :: a10 :: t)):w.cell? ⟨b,0,none⟩=some a0/\w.cell? ⟨b,1,none⟩=some a1/\w.cell? ⟨b,2,none⟩=some a2/\w.cell? ⟨b,3,none⟩=some a3/\w.cell? ⟨b,4,none⟩=some a4/\w.cell? ⟨b,5,none⟩=some a5/\w.cell? ⟨b,6,none⟩=some a6/\w.cell? ⟨b,7,none⟩=some a7/\w.cell? ⟨b,8,none⟩=some a8/\w.cell? ⟨b,9,none⟩=some a9/\w.cell? ⟨b,10,none⟩=some a10:=⟨h 0 _ rfl,h 1 _ rfl,h 2 _ rfl,h 3 _ rfl,h 4 _ rfl,h 5 _ rfl,h 6 _ rfl,h 7 _ rfl,h 8 _ rfl,h 9 _ rfl,h 10 _ rfl⟩
theorem zrB {w:World}{b:Nat}{a0 a1 a2 a3 a4 a5 a6 a7 a8 a9 a10 a11:Value}{t:List Value}(h:RowAt w b (a0 :: a1 :: a2 :: a3 :: a4 :: a5 :: a6 :: a7 :: a8 :: a9 :: a10 :: a11 :: t)):w.cell? ⟨b,0,none⟩=some a0/\w.cell? ⟨b,1,none⟩=some a1/\w.cell? ⟨b,2,none⟩=some a2/\w.cell? ⟨b,3,none⟩=some a3/\w.cell? ⟨b,4,none⟩=some a4/\w.cell? ⟨b,5,none⟩=some a5/\w.cell? ⟨b,6,none⟩=some a6/\w.cell? ⟨b,7,none⟩=some a7/\w.cell? ⟨b,8,none⟩=some a8/\w.cell? ⟨b,9,none⟩=some a9/\w.cell? ⟨b,10,none⟩=some a10/\w.cell? ⟨b,11,none⟩=some a11:=⟨h 0 _ rfl,h 1 _ rfl,h 2 _ rfl,h 3 _ rfl,h 4 _ rfl,h 5 _ rfl,h 6 _ rfl,h 7 _ rfl,h 8 _ rfl,h 9 _ rfl,h 10 _ rfl,h 11 _ rfl⟩
theorem zrC {w:World}{b:Nat}{a0 a1 a2 a3 a4 a5 a6 a7 a8 a9 a10 a11 a12:Value}{t:List Value}(h:RowAt w b (a0 :: a1 :: a2 :: a3 :: a4 :: a5 :: a6 :: a7 :: a8 :: a9 :: a10 :: a11 :: a12 :: t)):w.cell? ⟨b,0,none⟩=some a0/\w.cell? ⟨b,1,none⟩=some a1/\w.cell? ⟨b,2,none⟩=some a2/\w.cell? ⟨b,3,none⟩=some a3/\w.cell? ⟨b,4,none⟩=some a4/\w.cell? ⟨b,5,none⟩=some a5/\w.cell? ⟨b,6,none⟩=some a6/\w.cell? ⟨b,7,none⟩=some a7/\w.cell? ⟨b,8,none⟩=some a8/\w.cell? ⟨b,9,none⟩=some a9/\w.cell? ⟨b,10,none⟩=some a10/\w.cell? ⟨b,11,none⟩=some a11/\w.cell? ⟨b,12,none⟩=some a12:=⟨h 0 _ rfl,h 1 _ rfl,h 2 _ rfl,h 3 _ rfl,h 4 _ rfl,h 5 _ rfl,h 6 _ rfl,h 7 _ rfl,h 8 _ rfl,h 9 _ rfl,h 10 _ rfl,h 11 _ rfl,h 12 _ rfl⟩
theorem zrD {w:World}{b:Nat}{a0 a1 a2 a3 a4 a5 a6 a7 a8 a9 a10 a11 a12 a13:Value}{t:List Value}(h:RowAt w b (a0 :: a1 :: a2 :: a3 :: a4 :: a5 :: a6 :: a7 :: a8 :: a9 :: a10 :: a11 :: a12 :: a13 :: t)):w.cell? ⟨b,0,none⟩=some a0/\w.cell? ⟨b,1,none⟩=some a1/\w.cell? ⟨b,2,none⟩=some a2/\w.cell? ⟨b,3,none⟩=some a3/\w.cell? ⟨b,4,none⟩=some a4/\w.cell? ⟨b,5,none⟩=some a5/\w.cell? ⟨b,6,none⟩=some a6/\w.cell? ⟨b,7,none⟩=some a7/\w.cell? ⟨b,8,none⟩=some a8/\w.cell? ⟨b,9,none⟩=some a9/\w.cell? ⟨b,10,none⟩=some a10/\w.cell? ⟨b,11,none⟩=some a11/\w.cell? ⟨b,12,none⟩=some a12/\w.cell? ⟨b,13,none⟩=some a13:=⟨h 0 _ rfl,h 1 _ rfl,h 2 _ rfl,h 3 _ rfl,h 4 _ rfl,h 5 _ rfl,h 6 _ rfl,h 7 _ rfl,h 8 _ rfl,h 9 _ rfl,h 10 _ rfl,h 11 _ rfl,h 12 _ rfl,h 13 _ rfl⟩
theorem ff3 {w:World}{b:Nat}{t:TypeId}{l:List Value}(h:BoxN w b t l):w.frozen? ⟨b,0,none⟩=false/\w.frozen? ⟨b,1,none⟩=false/\w.frozen? ⟨b,2,none⟩=false:=⟨h.frozen 0,h.frozen 1,h.frozen 2⟩
theorem ff4 {w:World}{b:Nat}{t:TypeId}{l:List Value}(h:BoxN w b t l):w.frozen? ⟨b,0,none⟩=false/\w.frozen? ⟨b,1,none⟩=false/\w.frozen? ⟨b,2,none⟩=false/\w.frozen? ⟨b,3,none⟩=false:=⟨h.frozen 0,h.frozen 1,h.frozen 2,h.frozen 3⟩
theorem ff5 {w:World}{b:Nat}{t:TypeId}{l:List Value}(h:BoxN w b t l):w.frozen? ⟨b,0,none⟩=false/\w.frozen? ⟨b,1,none⟩=false/\w.frozen? ⟨b,2,none⟩=false/\w.frozen? ⟨b,3,none⟩=false/\w.frozen? ⟨b,4,none⟩=false:=⟨h.frozen 0,h.frozen 1,h.frozen 2,h.frozen 3,h.frozen 4⟩
theorem ff6 {w:World}{b:Nat}{t:TypeId}{l:List Value}(h:BoxN w b t l):w.frozen? ⟨b,0,none⟩=false/\w.frozen? ⟨b,1,none⟩=false/\w.frozen? ⟨b,2,none⟩=false/\w.frozen? ⟨b,3,none⟩=false/\w.frozen? ⟨b,4,none⟩=false/\w.frozen? ⟨b,5,none⟩=false:=⟨h.frozen 0,h.frozen 1,h.frozen 2,h.frozen 3,h.frozen 4,h.frozen 5⟩
theorem ff7 {w:World}{b:Nat}{t:TypeId}{l:List Value}(h:BoxN w b t l):w.frozen? ⟨b,0,none⟩=false/\w.frozen? ⟨b,1,none⟩=false/\w.frozen? ⟨b,2,none⟩=false/\w.frozen? ⟨b,3,none⟩=false/\w.frozen? ⟨b,4,none⟩=false/\w.frozen? ⟨b,5,none⟩=false/\w.frozen? ⟨b,6,none⟩=false:=⟨h.frozen 0,h.frozen 1,h.frozen 2,h.frozen 3,h.frozen 4,h.frozen 5,h.frozen 6⟩
theorem ff8 {w:World}{b:Nat}{t:TypeId}{l:List Value}(h:BoxN w b t l):w.frozen? ⟨b,0,none⟩=false/\w.frozen? ⟨b,1,none⟩=false/\w.frozen? ⟨b,2,none⟩=false/\w.frozen? ⟨b,3,none⟩=false/\w.frozen? ⟨b,4,none⟩=false/\w.frozen? ⟨b,5,none⟩=false/\w.frozen? ⟨b,6,none⟩=false/\w.frozen? ⟨b,7,none⟩=false:=⟨h.frozen 0,h.frozen 1,h.frozen 2,h.frozen 3,h.frozen 4,h.frozen 5,h.frozen 6,h.frozen 7⟩
theorem ff9 {w:World}{b:Nat}{t:TypeId}{l:List Value}(h:BoxN w b t l):w.frozen? ⟨b,0,none⟩=false/\w.frozen? ⟨b,1,none⟩=false/\w.frozen? ⟨b,2,none⟩=false/\w.frozen? ⟨b,3,none⟩=false/\w.frozen? ⟨b,4,none⟩=false/\w.frozen? ⟨b,5,none⟩=false/\w.frozen? ⟨b,6,none⟩=false/\w.frozen? ⟨b,7,none⟩=false/\w.frozen? ⟨b,8,none⟩=false:=⟨h.frozen 0,h.frozen 1,h.frozen 2,h.frozen 3,h.frozen 4,h.frozen 5,h.frozen 6,h.frozen 7,h.frozen 8⟩
theorem BoxN.new (W:World)(t:TypeId)(l:List Value):BoxN (W.alloc (.cells l.toArray t)) W.heap.size t l:=World.alloc_heap_new W _
theorem BoxN.kept {W W':World}{row:Option Nat}{b:Nat}{t:TypeId}{l:List Value}(h:BoxN W b t l)(hg:W.grownBy W' row)(hne:some b≠row):BoxN W' b t l:=(hg.block b h.lt hne).trans h
theorem BoxN.alloc {W:World}{b:Nat}{t:TypeId}{l:List Value}(h:BoxN W b t l)(o:Obj):BoxN (W.alloc o) b t l:=h.kept (World.grownBy_alloc W o none) (by simp)
theorem BoxN.set {W:World}{b:Nat}{t:TypeId}{l:List Value}(h:BoxN W b t l)(i:Nat)(v:Value):BoxN (W.setCell ⟨b,i,none⟩ v) b t (l.set i v):=by
 obtain⟨hlt,hk⟩:=Array.getElem?_eq_some_iff.1 h;show(W.heap.modify b _)[b]?=_;rw[Array.getElem?_eq_getElem (by rw[Array.size_modify];exact hlt),Array.getElem_modify_self,hk];simp
theorem BoxN.other {W:World}{b:Nat}{t:TypeId}{l:List Value}(h:BoxN W b t l){a:Addr}(hne:b≠a.block)(v:Value):BoxN (W.setCell a v) b t l:=(Below.heap_setCell _ _ _ b hne).trans h
theorem BoxN.below {W W':World}{n b:Nat}{t:TypeId}{l:List Value}(h:BoxN W b t l)(hb:Below n W W')(hn:b<n):BoxN W' b t l:=(hb.block b hn).trans h
theorem zpl {β:Type}(b:Nat)(t:TypeId)(f:β->List Value):Own (fun s W=>BoxN W b t (f s)):=fun s X Y row hs hg hrow=>
 hs.kept hg (fun e'=>by obtain⟨o,ho,hc⟩:=hrow b e'.symm;rw[show X.heap[b]?=_ from hs] at ho;cases ho;cases hc)
theorem zeK:zjr (.slice none 0 0) 0:=⟨none,0,rfl,Nat.le_refl _,by decide,fun _=>rfl⟩
theorem zc6 {W:World}{tmps:Array Value}{rb:Nat}{e a:Int}{v:Value}(ht:tmps.getD 2 undef=.pointer (some ⟨rb,0,none⟩))(hw:RowAt W rb [.int .i64 e,v,.int .i64 a]) :
  (results Tryz.f42 tmps).run Tryz.prog W=.ok (.agg #[.int .i64 e,v,.int .i64 a]) W:=by
 have c0:=hw 0 _ rfl;have c1:=hw 1 _ rfl;have c2:=hw 2 _ rfl;rw[Array.getD_eq_getD_getElem?] at ht;simp[results,Tryz.f42,go_sem,ht,c0,c1,c2]
theorem Kp.of_grown {n0 n1:Nat}{A B:World}{row:Option Nat}(h0:n0<=A.heap.size)(hg:A.grownBy B row)(hr:∀k,row=some k->n0<=k/\k<n1):Kp n0 n1 A B:=
 ⟨(Below.refl _ A).grown hg h0 (fun k e=>(hr k e).1),fun k o hk ho _=>(hg.block k (Array.getElem?_eq_some_iff.1 ho).1 (fun e=>by have:=(hr k e.symm).2;omega)).trans ho⟩
theorem Kp.alloc {n0 n1:Nat}{A:World}(h0:n0<=A.heap.size)(o:Obj):Kp n0 n1 A (A.alloc o):=Kp.of_grown h0 (World.grownBy_alloc A o none) (fun k e=>by cases e)
theorem Kp.setCell {n0 n1:Nat}{A:World}{b:Nat}(h0:n0<=A.heap.size)(hb:n0<=b)(hb1:b<n1)(i:Nat)(v:Value):Kp n0 n1 A (A.setCell ⟨b,i,none⟩ v):=by
 refine⟨(Below.refl _ A).setCell (p:=⟨b,i,none⟩) hb v,fun k o hk ho _=>(Below.heap_setCell _ _ _ k (fun e=>?_)).trans ho⟩;have e':k=b:=e;omega
theorem Kp.putObj {n0 n1 l:Nat}{A:World}{o:Obj}(o':Obj)(h0:n0<=l)(hl:A.heap[l]?=some o)(ho:o.isCells=false):Kp n0 n1 A (A.putObj l o'):=by
 have hlt:=(Array.getElem?_eq_some_iff.1 hl).1;refine⟨(Below.refl _ A).grown (grownBy_putObj' A l o') (by omega) (fun k e=>by cases e;omega),fun k u hk hu hc=>?_⟩;by_cases e:k=l
 ·subst e;rw[hl] at hu;cases hu;rw[ho] at hc;cases hc
 ·exact(World.putObj_heap_other e).trans hu
def IdsIn (W:World)(mb:Nat)(n:Nat)(ids:List Int):Prop:=∃D:DataW Unit,W.ownsMap Tryz.prog 3 (plainElem (H:=Unit) Tryz.prog 3) mb n D/\∀i:Int,zah i->Maps.has D (.int .i64 i)=ids.contains i
theorem IdsIn.kept {W W':World}{row:Option Nat}{mb n:Nat}{ids:List Int}(h:IdsIn W mb n ids)(hg:W.grownBy W' row)(hne:some mb≠row):IdsIn W' mb n ids:=by
 obtain⟨D,h1,h2⟩:=h;exact⟨D,h1.kept hg hne,h2⟩
theorem IdsIn.mono {W:World}{mb n m:Nat}{ids:List Int}(h:IdsIn W mb n ids)(hnm:n<=m):IdsIn W mb m ids:=by
 obtain⟨D,h1,h2⟩:=h;exact⟨D,h1.mono hnm,h2⟩
theorem IdsIn.made (w:World):IdsIn (w.alloc (.map #[] 0)) w.heap.size 0 []:=⟨.map [],World.ownsMap_made w _ _ _,fun i _=>rfl⟩
theorem zl4 {D:DataW Unit}{ids:List Int}(hD:Maps.IsMap D)(h:∀i:Int,zah i->Maps.has D (.int .i64 i)=ids.contains i)(j:Int)(d:DataW Unit):∀i:Int,zah i->Maps.has (D.put (.int .i64 j) d) (.int .i64 i)=(j :: ids).contains i:=by
 intro i hi;by_cases e:i=j
 ·subst e;rw[Maps.has_put_same hD (by simp[WideAt.IsKeyLit]) d];simp
 ·rw[Maps.has_put_other (by intro e';apply e;cases e';rfl) d,h i hi];simp[e]
theorem zko {F:Fence}{n:Nat}{P:Program}{α:Type}{g:Operand}{p0:Tmp}{assign body:Code}{Q:Exit->Act->World->Prop}{a:Act}{w:World}
  (slot:Tmp) (t:TypeId) (vof:α->Value) (cells:α->List Value)
  (hro:F.round=none) (h1:1<=n) {gf:Nat} {lb:Array Value} (hg:a.eval g=.func (.func gf) #[] lb) (hFg:F.fn gf) (eg:∀args w,(callFunc gf args).run P w=.ok (.enter gf args) w)
  {Kp:World->World->Prop} {S Sp:List α->Prop} {N:Nat} {w0:World} (hseq:SeqStopsK F (n-1) P gf lb (fun x=>#[vof x]) Kp S Sp N w0)
  (hKt:∀ {A B C:World},Kp A B->Kp B C->Kp A C) (hKb:∀(W:World) (l:Nat) (o o':Obj),w.heap.size<=l->W.heap[l]?=some o->o.isCells=false->o.isWalk=false->Kp W (W.putObj l o')) (hb0:Below w0.heap.size w0 w)
  (I:List α->World->Prop) (Ix:Code->List α->World->Prop) (hI:OwnFrom w.heap.size I) (hIx:∀c,OwnFrom w.heap.size (Ix c)) (h0:I [] w)
  (hassign:∀(l:Nat) (pre:List α) (x:α) (W:World) (K:Act->World->Prop),I pre W->(∀a' W',KeepsFrom w.heap.size W W'->Kp W W'->I pre W'->(∃Bx,w.heap.size<=Bx/\BoxN W' Bx t (cells x)/\a' = { tmps:=(a.tmps.setIfInBounds p0 (vof x)).setIfInBounds slot (.pointer (some ⟨Bx,0,none⟩)),defers:=[] })->K a' W') ->
   assign.wpIn (F.inRound l) (n-1-1) P (Exit.then K (fun _ _ _=>False)) { tmps:=a.tmps.setIfInBounds p0 (vof x),defers:=[] } W)
  (hbody:∀(l:Nat) (pre:List α) (x:α) (Bx:Nat) (W:World),w.heap.size<=l->(∃r,W.heap[l]?=some (.loop r))->I pre W->w.heap.size<=Bx->BoxN W Bx t (cells x)->pre.length<N->body.wpIn (F.inRound l) (n-1-1) P (ownPostG w.heap.size Kp I Ix (pre ++ [x]) W) { tmps:=(a.tmps.setIfInBounds p0 (vof x)).setIfInBounds slot (.pointer (some ⟨Bx,0,none⟩)),defers:=[] } W)
  (hdone:∀(D:Nat) (xs:List α) (W:World),w.heap.size<=D->S xs->I xs W->W.heap[D]?=some (.deferred (some []))->Q .normal { a with defers:={ target:=.collected D,args:=#[] } :: a.defers } W)
  (hstop:∀(D:Nat) (c:Code) (pre:List α) (W:World),w.heap.size<=D->Sp pre->Ix c pre W->W.heap[D]?=some (.deferred (some []))->c.wpIn F n P Q { a with defers:={ target:=.collected D,args:=#[] } :: a.defers } W) :
  (Code.rangeFunc g #[p0] assign body).wpIn F n P Q a w:=
 wpIn_rangeFunc_ownH hro h1 hg hFg eg hseq hKt hKb hb0 (fun _=>rfl) I Ix hI hIx h0 (fun x a' W=>∃Bx,w.heap.size<=Bx/\BoxN W Bx t (cells x)/\a' = { tmps:=(a.tmps.setIfInBounds p0 (vof x)).setIfInBounds slot (.pointer (some ⟨Bx,0,none⟩)),defers:=[] })
  (fun x a' _ X Y row hs hg hr=>by obtain⟨Bx,e1,e2,e3⟩:=hs;exact⟨Bx,e1,zpl Bx t (fun(_:Unit)=>cells x) () X Y row e2 hg (fun r e=>(hr r e).2),e3⟩)
  (fun l pre x W K hi hK=>by simpa using hassign l pre x W K hi hK)
  (fun l pre x a' W hl hr hi ⟨Bx,hB,hx,e⟩ hlen=>by subst e;exact hbody l pre x Bx W hl hr hi hB hx hlen) hdone hstop
def zfG (w:World)(res:Int)(e:Ending)(w':World):Prop:=∃d path at',e=.returned (.agg #[.int .i64 res,path,.int .i64 at'])/\zjr path d/\Below w.heap.size w w'
theorem zl5 {w:World}{L:List Fd}{NS:List (ByteArray × ByteArray)}{fv nv:Value}(hL:FdsAt w L fv)(hN:zrn w NS nv)(hS:SaysAt w) :
  Calls Tryz.prog 42 #[.agg #[fv,nv]] w (zfG w (zhR L (zf9 NS))):=by
 refine(callsIn_wide (n:=5)).1 ?_;have hro:Fence.wide.round=none:=rfl;have hmx:Tryz.prog.follows .mixedOrders=true:=by kernel_rfl
 have hdd:∀k:Nat,(Fence.wide.depth.isSome=true->1<=k):=fun k h=>by simp[Fence.wide] at h
 have hmm:=@run_makeMap Tryz.prog;have HL:=zh hL;have HS:=zh hS;have HN:=zh hN;obtain⟨p,c,rfl,hlc,hcm,_⟩:=hL;obtain⟨np,nc,rfl,hnc,hncm,hnt⟩:=hN;have HNT:=zh hnt;clear hS hnt;unfold maxLen at hcm hncm;obtain⟨res,hres⟩:∃r,r=zhR L (zf9 NS):=⟨_,rfl⟩;rw[<-hres];unfold zhR at hres;have hsl:(zf9 NS).length=NS.length:=by simp[zf9]
 rw[hsl] at hres;have HR:=zh hres;clear hres hsl;refine callsIn_of_wp_marks Tryz.func42 rfl (trivial:Fence.wide.fn 42) ?_ hro;simp only[Tryz.ntmps42,List.size_toArray,List.length_cons,List.length_nil,Nat.reduceAdd,Nat.reduceSub,Array.replicate_succ,Array.replicate_zero,List.push_toArray,List.append_toArray,List.nil_append,List.cons_append];obtain⟨W2,hW2⟩:=nm ((w.alloc (.cells #[.slice p L.length c,.slice np NS.length nc] 124)).alloc (.cells #[.int .i64 0,.slice none 0 0,.int .i64 0] 69));have hB2:Below w.heap.size w W2:=by rw[hW2];exact((Below.refl _ w).alloc (Nat.le_refl _) _).alloc (by simp) _
 have hs2:W2.heap.size=w.heap.size+2:=by rw[hW2];simp
 have ra:RowAt W2 w.heap.size [Value.slice p L.length c,.slice np NS.length nc]:=by rw[hW2];exact(RowAt.new w [Value.slice p L.length c,.slice np NS.length nc] 124).alloc _
 have rr:∀e a:Int,RowAt ((w.alloc (.cells #[.slice p L.length c,.slice np NS.length nc] 124)).alloc (.cells #[.int .i64 e,.slice none 0 0,.int .i64 a] 69)) (w.heap.size+1) [Value.int .i64 e,.slice none 0 0,.int .i64 a]:=fun e a=>by
  have:=RowAt.new (w.alloc (.cells #[.slice p L.length c,.slice np NS.length nc] 124)) [Value.int .i64 e,.slice none 0 0,.int .i64 a] 69
  rwa [World.size_alloc] at this
 have re:∀e a:Int,Below w.heap.size w ((w.alloc (.cells #[.slice p L.length c,.slice np NS.length nc] 124)).alloc (.cells #[.int .i64 e,.slice none 0 0,.int .i64 a] 69)):=fun e a=>((Below.refl _ w).alloc (Nat.le_refl _) _).alloc (by simp) _;have rr2:RowAt W2 (w.heap.size+1) [Value.int .i64 0,.slice none 0 0,.int .i64 0]:=by rw[hW2];exact rr 0 0
 have HRR:=zh rr;have HRE:=zh re;have HRA:=zh ra;have HR2:=zh rr2;have HB2:=zh hB2;have HW2:=zh hW2;clear rr re ra rr2 hB2 hW2;gi_wp2
 ·have e:res=34:=by rw[HR.o,if_pos (by omega)]
  rw[e];exact⟨_,zc6 rfl (HRR.o 34 32),0,.slice none 0 0,32,rfl,zeK,HRE.o 34 32⟩
 ·have e:res=34:=by rw[HR.o,if_neg (by omega),if_pos (by omega)]
  rw[e];exact⟨_,zc6 rfl (HRR.o 34 16),0,.slice none 0 0,16,rfl,zeK,HRE.o 34 16⟩
 rw[<-HW2.o];have HR:=zh (show _ from by have:=HR.o;rw[if_neg (by omega),if_neg (by omega)] at this;exact this);clear HRR HRE;have hr0:=HR2.o 0 _ rfl;have hbx:BoxN W2 (w.heap.size+1) 69 [Value.int .i64 0,.slice none 0 0,.int .i64 0]:=by
  rw[HW2.o];have:=BoxN.new (w.alloc (.cells #[.slice p L.length c,.slice np NS.length nc] 124)) 69 [Value.int .i64 0,.slice none 0 0,.int .i64 0]
  rwa [World.size_alloc] at this
 have HBX:=zh hbx;clear hr0 hbx HW2
 gi_loopw [24] (fun i wr=>∃k:Nat,k<=NS.length/\i=.int .i64 k/\Hid (∀(j:Nat) (hj:j<NS.length),j<k->NS[j].1.size<=256/\NS[j].2.size<=256)/\Hid (Below W2.heap.size W2 wr)) (fun i _=>NS.length-(intOf i).toNat)
 case atStart=>exact⟨0,by omega,rfl,zh (fun j hj h=>absurd h (Nat.not_lt_zero _)),zh (Below.refl _ _)⟩
 case round=>
  obtain⟨k,hk,rfl,HF,HBK⟩:=hrel;have hbw:Below w.heap.size w wr:=HB2.o.trans (HBK.o.mono (by omega));have hsz:=hbw.size;have hsz2:=HBK.o.size;have bx:=HBX.o.below HBK.o (by omega);have ra:=HRA.o.below HBK.o;have HBX':=zh bx;have HRA':=zh ra;have HBW:=zh hbw;have hq1:w.heap.size+1<wr.heap.size:=by omega
  have hq0:w.heap.size<wr.heap.size:=by omega
  have HQ:=zh hs2;clear hs2 hsz2 hsz;by_cases hlt:k<NS.length
  ·obtain⟨b,o,rfl,c1,c2,l1,l2⟩:=HNT.o k hlt;replace c1:=zaa hbw c1;replace c2:=zaa hbw c2;generalize hs1:NS[k].1=s1 at c1 l1;generalize hs2':NS[k].2=s2 at c2 l2;have HS1:=zh hs1;have HS2:=zh hs2';have b1:=World.block_lt_of_cell? wr _ c1;simp only at b1;unfold maxLen at l1 l2;have q0:=bx.row 0 _ rfl;have q1:=bx.row 1 _ rfl;have q2:=bx.row 2 _ rfl;have f0:=bx.frozen 0;have f1:=bx.frozen 1;have f2:=bx.frozen 2;clear hs1 hs2' hbw bx ra;gi_wp2
   ·
    have hbig:256<s1.size\/256<s2.size:=by omega
    have e:res=37:=by
     rw[HR.o,if_pos ?_];rw[List.any_eq_true];refine⟨(s1.size,s2.size),List.mem_map.2 ⟨NS[k],List.getElem_mem hlt,by rw[HS1.o,HS2.o]⟩,?_⟩;simpa using hbig
    rw[e];have bb:=(((HBX'.o.set 0 (.int .i64 37)).set 1 (.slice none 0 0)).set 2 (.int .i64 k)).alloc (.cells #[.string s1,.string s2] 141);exact⟨_,zc6 rfl bb.row,0,.slice none 0 0,k,rfl,zeK,(((HBW.o.setCell (p:=⟨_,0,none⟩) (by simp) _).setCell (p:=⟨_,1,none⟩) (by simp) _).setCell (p:=⟨_,2,none⟩) (by simp) _).alloc (by simp;omega) _⟩
   ·refine⟨⟨k+1,by omega,by go_num,zh (fun j hj hjk=>?_),zh (HBK.o.alloc HBK.o.size _)⟩,by simp[intOf];omega⟩;by_cases e:j=k
    ·subst e;rw[HS1.o,HS2.o];omega
    ·exact HF.o j hj (by omega)
   ·
    have hbig:256<s1.size\/256<s2.size:=by omega
    have e:res=37:=by
     rw[HR.o,if_pos ?_];rw[List.any_eq_true];refine⟨(s1.size,s2.size),List.mem_map.2 ⟨NS[k],List.getElem_mem hlt,by rw[HS1.o,HS2.o]⟩,?_⟩;simpa using hbig
    rw[e];have bb:=(((HBX'.o.set 0 (.int .i64 37)).set 1 (.slice none 0 0)).set 2 (.int .i64 k)).alloc (.cells #[.string s1,.string s2] 141);exact⟨_,zc6 rfl bb.row,0,.slice none 0 0,k,rfl,zeK,(((HBW.o.setCell (p:=⟨_,0,none⟩) (by simp) _).setCell (p:=⟨_,1,none⟩) (by simp) _).setCell (p:=⟨_,2,none⟩) (by simp) _).alloc (by simp;omega) _⟩
  ·have a0:=ra 0 _ rfl;have hq4:w.heap.size<wr.heap.size+1:=by omega
   have hq5:w.heap.size<wr.heap.size+1+1:=by omega
   clear hbw bx ra;gi_wp2;refine⟨trivial,?_⟩;refine(callsIn_wide.2 (zn6 p L.length c _)).mono ?_;rintro e w' ⟨rfl,rfl⟩;gi_wp2;have bA:=((((BoxN.new wr 3 [.int .i64 0]).alloc (.map #[] 0)).alloc (.cells #[.map (some (wr.heap.size+1))] 142)).alloc (.cells #[.slice p L.length c] 22)).alloc (.cells #[.int .i64 65] 3);have bI:=((BoxN.new ((wr.alloc (.cells #[.int .i64 0] 3)).alloc (.map #[] 0)) 142 [.map (some (wr.heap.size+1))]).alloc (.cells #[.slice p L.length c] 22)).alloc (.cells #[.int .i64 65] 3);have bL:=(BoxN.new (((wr.alloc (.cells #[.int .i64 0] 3)).alloc (.map #[] 0)).alloc (.cells #[.map (some (wr.heap.size+1))] 142)) 22 [Value.slice p L.length c]).alloc (.cells #[.int .i64 65] 3);have bM:=BoxN.new ((((wr.alloc (.cells #[.int .i64 0] 3)).alloc (.map #[] 0)).alloc (.cells #[.map (some (wr.heap.size+1))] 142)).alloc (.cells #[.slice p L.length c] 22)) 3 [.int .i64 65];have bR:=((((HBX'.o.alloc (.cells #[.int .i64 0] 3)).alloc (.map #[] 0)).alloc (.cells #[.map (some (wr.heap.size+1))] 142)).alloc (.cells #[.slice p L.length c] 22)).alloc (.cells #[.int .i64 65] 3);have iI:=(((IdsIn.made (wr.alloc (.cells #[.int .i64 0] 3))).kept (World.grownBy_alloc _ (.cells #[.map (some (wr.heap.size+1))] 142) none) (by simp)).kept (World.grownBy_alloc _ (.cells #[.slice p L.length c] 22) none) (by simp)).kept (World.grownBy_alloc _ (.cells #[.int .i64 65] 3) none) (by simp);have hB3:=((((HBW.o.alloc HBW.o.size (.cells #[.int .i64 0] 3)).alloc (by simp;omega) (.map #[] 0)).alloc (by simp;omega) (.cells #[.map (some (wr.heap.size+1))] 142)).alloc (by simp;omega) (.cells #[.slice p L.length c] 22)).alloc (by simp;omega) (.cells #[.int .i64 65] 3);have hs3:(((((wr.alloc (Obj.cells #[.int .i64 0] 3)).alloc (Obj.map #[] 0)).alloc (Obj.cells #[.map (some (wr.heap.size+1))] 142)).alloc (Obj.cells #[.slice p L.length c] 22)).alloc (Obj.cells #[.int .i64 65] 3)).heap.size=wr.heap.size+5:=by simp
   simp only[World.size_alloc] at bI bL bM iI;obtain⟨W3,hW3⟩:=nm ((((((wr.alloc (Obj.cells #[.int .i64 0] 3)).alloc (Obj.map #[] 0)).alloc (Obj.cells #[.map (some (wr.heap.size+1))] 142)).alloc (Obj.cells #[.slice p L.length c] 22)).alloc (Obj.cells #[.int .i64 65] 3)));rw[<-hW3] at bA bI bL bM bR iI hB3 hs3 ⊢;have hchk:res=zfa L:=by
    rw[HR.o,if_neg ?_];rw[Bool.not_eq_true,List.any_eq_false];intro x hx;obtain⟨y,hy,rfl⟩:=List.mem_map.1 hx;obtain⟨j,hj,rfl⟩:=List.mem_iff_getElem.1 hy;have:=HF.o j hj (by omega);simp;omega
   have HCK:=zh hchk;clear hW3 hchk;obtain⟨A,hA⟩:=nm (wr.heap.size);rw[<-hA] at bA bI bL bM iI hs3 hq0 hq1 ⊢;obtain⟨R,hR⟩:=nm (w.heap.size+1);have hRw:w.heap.size<=R:=by omega
   rw[<-hR] at bR ⊢;have hRA:R<A:=by omega
   have HAR:=zh hA;have HRR:=zh hR;have HS3:=zh hs3;clear hA hR hq0 hq1;refine zko (F:=Fence.wide) 7 147 (fun x:Place w=>x.v) (fun x=>[Value.slice x.q x.n.d x.qc,x.av] ++ x.cs ++ [Value.bool x.n.inD]) hro (by decide) (gf:=72) (lb:=#[.pointer (some ⟨A+4,0,none⟩),.pointer (some ⟨A+3,0,none⟩)]) rfl trivial (enters_of Tryz.func72 (by kernel_rfl) rfl)
    (zqo HL.o (mb:=A+4) (lb:=A+3) (n1:=A+3) hB3 (bL.row 0 _ rfl) (bM.row 0 _ rfl) (by omega) (by omega) (by omega))
    (fun h k=>h.trans k) (fun W l o o' hl ho hc _=>Kp.putObj o' (by omega) ho hc) (Below.refl _ _)
    (fun pre W=>(BoxN W A 3 [.int .i64 pre.length]/\BoxN W (A+2) 142 [.map (some (A+1))]/\BoxN W R 69 [.int .i64 0,.slice none 0 0,.int .i64 0])/\IdsIn W (A+1) pre.length (zes [] (pre.map Place.n))/\zbm 0 [] (pre.map Place.n)=0/\W3.heap.size<=W.heap.size/\Below w.heap.size w W)
    (fun c pre W=>c=.ret/\(∃d path at',BoxN W R 69 [.int .i64 (zbm 0 [] (pre.map Place.n)),path,.int .i64 at']/\zjr path d)/\zbm 0 [] (pre.map Place.n)≠0/\Below w.heap.size w W)
    (fun s X Y row hs hg hr=>⟨⟨hs.1.1.kept hg (fun e=>by have:=(hr _ e.symm).1;omega),hs.1.2.1.kept hg (fun e=>by have:=(hr _ e.symm).1;omega),hs.1.2.2.kept hg (fun e=>by have:=(hr _ e.symm).1;omega)⟩,hs.2.1.kept hg (fun e=>by have:=(hr _ e.symm).1;omega),hs.2.2.1,Nat.le_trans hs.2.2.2.1 hg.size,hs.2.2.2.2.grown hg hs.2.2.2.2.size (fun k e=>by have:=(hr _ e).1;omega)⟩)
    (fun c s X Y row hs hg hr=>by
     obtain⟨h1,⟨d,path,at',h2,h3⟩,h4,h5⟩:=hs;exact⟨h1,⟨d,path,at',h2.kept hg (fun e=>by have:=(hr _ e.symm).1;omega),h3⟩,h4,h5.grown hg h5.size (fun k e=>by have:=(hr _ e).1;omega)⟩)
    ⟨⟨bA,bI,bR⟩,iI,rfl,Nat.le_refl _,hB3⟩ ?assign ?body ?done ?stop
   case assign=>
    rintro l pre x W K hI hK;obtain⟨fp,fcap,hcs,-⟩:=x.hf.shape;obtain⟨ap,acap,hav,-⟩:=x.ha;have hxv:x.v=.agg #[.slice x.q x.n.d x.qc,.slice ap x.n.ahead.length acap,.string x.n.f.nm,.bool x.n.f.nl,.int .i64 x.n.f.k,.int .i64 x.n.f.wd,.int .i64 x.n.f.id,.int .i64 x.n.f.ix,.slice fp x.n.f.kids.length fcap,.bool x.n.inD]:=by
     unfold Place.v zf8;rw[hav,hcs];rfl
    have hce:[Value.slice x.q x.n.d x.qc,x.av] ++ x.cs ++ [Value.bool x.n.inD]=[.slice x.q x.n.d x.qc,.slice ap x.n.ahead.length acap,.string x.n.f.nm,.bool x.n.f.nl,.int .i64 x.n.f.k,.int .i64 x.n.f.wd,.int .i64 x.n.f.id,.int .i64 x.n.f.ix,.slice fp x.n.f.kids.length fcap,.bool x.n.inD]:=by
     rw[hav,hcs];rfl
    rw[hxv] at hK ⊢;rw[hce] at hK;obtain⟨⟨b1,b2,b3⟩,i1,f1,hSW,hB⟩:=hI;have hsW:=hB.size;have hlt3:=b2.lt;have HKh:=zh hK;have HI1:=zh i1;have HF1:=zh f1;have B1:=zh b1;have B2:=zh b2;have B3:=zh b3;have HB:=zh hB;clear hxv hce hcs hav hK b1 b2 b3 i1 f1 hB;gi_wp2;exact HKh.o _ _ ((KeepsOthers.alloc _ _).from _) (Kp.alloc hsW _) ⟨⟨B1.o.alloc _,B2.o.alloc _,B3.o.alloc _⟩,HI1.o.kept (World.grownBy_alloc _ _ none) (by simp),HF1.o,by simp;omega,HB.o.alloc hsW _⟩ ⟨W.heap.size,hSW,BoxN.new W 147 _,rfl⟩
   case body=>
    intro l pre x Bx W hl hr hI hBx bX hlen;obtain⟨fp,fcap,hcs,-⟩:=x.hf.shape;obtain⟨ap,acap,hav,-⟩:=x.ha;have hxv:x.v=.agg #[.slice x.q x.n.d x.qc,.slice ap x.n.ahead.length acap,.string x.n.f.nm,.bool x.n.f.nl,.int .i64 x.n.f.k,.int .i64 x.n.f.wd,.int .i64 x.n.f.id,.int .i64 x.n.f.ix,.slice fp x.n.f.kids.length fcap,.bool x.n.inD]:=by
     unfold Place.v zf8;rw[hav,hcs];rfl
    have hce:[Value.slice x.q x.n.d x.qc,x.av] ++ x.cs ++ [Value.bool x.n.inD]=[.slice x.q x.n.d x.qc,.slice ap x.n.ahead.length acap,.string x.n.f.nm,.bool x.n.f.nl,.int .i64 x.n.f.k,.int .i64 x.n.f.wd,.int .i64 x.n.f.id,.int .i64 x.n.f.ix,.slice fp x.n.f.kids.length fcap,.bool x.n.inD]:=by
     rw[hav,hcs];rfl
    have hwr:=fun(ids:List Int) (D:DataW Unit) (m:Nat) (hah:pre.length<=1000000000) (hown:W.ownsMap Tryz.prog 3 (plainElem (H:=Unit) Tryz.prog 3) (A+1) m D) (hids:Maps.has D (.int .i64 x.n.f.id)=ids.contains x.n.f.id)=>zlZ (w:=W) (n:=x.n) (q:=x.q) (qc:=x.qc) (av:=x.av) (cs:=x.cs) x.hd (x.ha.below hI.2.2.2.2) (x.hf.below hI.2.2.2.2) (HS.o.below hI.2.2.2.2) pre.length hah hown ids hids;have hxp:zf8 x.q x.qc x.av x.cs x.n=x.v:=rfl;rw[hxp,hxv] at hwr;rw[hxv];rw[hce] at bX;have hqv:=x.hq;obtain⟨-,-,-,-,hnm,ik,iw,ii,ix⟩:=x.hf.shape;clear hxv hce hcs hav hxp hlen;obtain⟨⟨b1,b2,b3⟩,⟨D,i1,i2⟩,f1,hSW,hB⟩:=hI;have hsW:=hB.size;have hfew:pre.length<=256:=by
     rcases ziO _ _ _ f1 with h|h
     ·have h':pre=[]:=by simpa using h
      rw[h'];simp
     ·simpa using h
    have hids:=i2 x.n.f.id ii;have HF1:=zh f1;have B1:=zh b1;have B2:=zh b2;have B3:=zh b3;have HB:=zh hB;have BX:=zh bX;have HWR:=zh hwr;have HI1:=zh i1;have HI2:=zh i2;have HID:=zh hids;have HQV:=zh hqv;have x0:=bX.row 0 _ rfl;have x1:=bX.row 1 _ rfl;have x2:=bX.row 2 _ rfl;have x3:=bX.row 3 _ rfl;have x4:=bX.row 4 _ rfl;have x5:=bX.row 5 _ rfl;have x6:=bX.row 6 _ rfl;have x7:=bX.row 7 _ rfl;have x8:=bX.row 8 _ rfl;have x9:=bX.row 9 _ rfl;have y1:=b1.row 0 _ rfl;have y2:=b2.row 0 _ rfl;have z1:=b1.frozen 0;clear hids i1 i2 hqv bX b1 b2 b3 hwr f1 hB;have hwe:zbm 0 [] ((pre ++ [x]).map Place.n)=za7 x.n pre.length (zes [] (pre.map Place.n)):=by
     rw[List.map_append,zjP _ _ _ _ HF1.o];show zbm _ _ [x.n]=_;rw[ziN];simp
    obtain⟨we,hwe'⟩:∃we,we=za7 x.n pre.length (zes [] (pre.map Place.n)):=⟨_,rfl⟩;have hwr2:=HWR.o _ _ _ (by omega) HI1.o HID.o;rw[<-hwe'] at hwe hwr2;have HWE:=zh hwe;have HWR:=zh hwr2;clear hwe hwe' hwr2;gi_wp2;refine⟨trivial,(CallsIn.inRound l (callsIn_wide.2 HWR.o)).mono ?_⟩;rintro e W1 ⟨rfl,hb1⟩;have c1:=BX.o.below hb1 BX.o.lt;have b1:=B1.o.below hb1 B1.o.lt;have b2:=B2.o.below hb1 B2.o.lt;have b3:=B3.o.below hb1 B3.o.lt;have k1:Kp w.heap.size (A+3) W W1:=Kp.of_below hsW hb1;have g1:W.grownBy W1 none:=⟨hb1.os,hb1.tape,hb1.output,hb1.size,fun k hk _=>hb1.block k hk⟩;have kf1:KeepsFrom W3.heap.size W W1:=KeepsFrom.of_grownBy g1 (fun j e=>by cases e);have i1:IdsIn W1 (A+1) pre.length (zes [] (pre.map Place.n)):=IdsIn.kept ⟨D,HI1.o,HI2.o⟩ g1 (by simp);have B1:=zh b1;have B2:=zh b2;have B3:=zh b3;have BX:=zh c1;have K1:=zh k1;have HI:=zh i1;have KF1:=zh kf1;have HB1:=zh (HB.o.trans (hb1.mono hsW));have hs1:=hb1.size;clear x0 x1 x2 x3 x4 x5 x6 x7 x8 x9 y1 y2 z1 k1 i1 kf1 hb1 g1;by_cases hz:we=0
    ·have HZ:=zh hz;subst hz;have y1:=b1.row 0 _ rfl;have y2:=b2.row 0 _ rfl;have z1:=b1.frozen 0;have x4:=c1.row 4 _ rfl;have x6:=c1.row 6 _ rfl;have ha1:A<W1.heap.size:=b1.lt;have hid1:(pre ++ [x]).map Place.n=pre.map Place.n ++ [x.n]:=by simp
     have HID1:=zh hid1;have hlen1:((pre ++ [x]).length:Int)=(pre.length:Int)+1:=by simp
     have HLEN:=zh hlen1;clear b1 b2 b3 c1 hid1 hlen1;by_cases hk19:x.n.f.k=19
     ·have HK19:=zh hk19;rw[hk19] at x4;obtain⟨D1,o1,o2⟩:=HI.o;have hkey:=Maps.keyOf_int_mk (P:=Tryz.prog) (k:=3) (q:=.i64) zjp (a:=x.n.f.id) (zpi ii);have HO1:=zh (o1.setCell (a:=⟨A,0,none⟩) (by simp) (.int .i64 ((pre.length:Int)+1)));have HO2:=zh o2;have HKEY:=zh hkey;have hval:plainElem (H:=Unit) Tryz.prog 3 (.int .i64 ((pre.length:Int)+1))=some (.lit (.int .i64 ((pre.length:Int)+1)),[]):=plainElem_int zjp (zpi ⟨by omega,by omega⟩);have HVAL:=zh hval;have BA2:=zh (B1.o.set 0 (.int .i64 ((pre.length:Int)+1)));have BI2:=zh (B2.o.other (a:=⟨A,0,none⟩) (by simp) (.int .i64 ((pre.length:Int)+1)));have BR2:=zh (B3.o.other (a:=⟨A,0,none⟩) (by simp;omega) (.int .i64 ((pre.length:Int)+1)));have hgs:=grownBy_setCell' W1 A (.int .i64 ((pre.length:Int)+1));have HGS:=zh hgs;clear hk19 o1 o2 hkey hval hgs
      gi_wp2_with (gi_at_mapUpdate;refine wpListIn_mapUpdate_own _ rfl _ _ _ 142 rfl 3 3 (Maps.int_keyed zjp) zn1 _ (A+1) pre.length _ rfl HO1.o (by unfold maxLen;omega) _ _ _ rfl rfl HKEY.o _ [] HVAL.o ?_;intro w2 hown2 hgrow2)
      have hga:A+1<(W1.setCell ⟨A,0,none⟩ (.int .i64 ((pre.length:Int)+1))).heap.size:=HO1.o.lt;have hsm:(W1.setCell ⟨A,0,none⟩ (.int .i64 ((pre.length:Int)+1))).heap.size=W1.heap.size:=by simp
      refine⟨(KF1.o.trans ((KeepsOthers.setCell W1 ⟨A,0,none⟩ _).from _)).trans (KeepsFrom.of_grownBy hgrow2 (fun j e=>by cases e;have:=HS3.o;omega)),(K1.o.trans (Kp.setCell (by omega) (by omega) (by omega) 0 _)).trans (Kp.of_grown (by omega) hgrow2 (fun k e=>by cases e;omega)),⟨?_,BI2.o.kept hgrow2 (by simp),BR2.o.kept hgrow2 (by simp;omega)⟩,?_,HWE.o,?_,?_⟩
      ·rw[HLEN.o];exact BA2.o.kept hgrow2 (by simp)
      ·rw[HID1.o,zh5];refine⟨_,by rw[List.length_append];exact hown2,?_⟩;show ∀i:Int,zah i->_=(zfh _ _).contains i;unfold zfh;rw[if_pos HK19.o];exact zl4 HO1.o.isMap HO2.o _ _
      ·have:=hgrow2.size;omega
      ·exact(HB1.o.grown HGS.o (by omega) (fun k e=>by cases e;omega)).grown hgrow2 (by omega) (fun k e=>by cases e;omega)
     ·have hk19':(x.n.f.k == 19)=false:=by simpa using hk19
      have HK19:=zh hk19;clear hk19;have hgs:=grownBy_setCell' W1 A (.int .i64 ((pre.length:Int)+1));have HGS:=zh hgs;clear hgs;gi_wp2;refine⟨KF1.o.trans ((KeepsOthers.setCell W1 ⟨A,0,none⟩ _).from _),K1.o.trans (Kp.setCell (by omega) (by omega) (by omega) 0 _),⟨?_,B2.o.other (by simp) _,B3.o.other (by simp;omega) _⟩,?_,HWE.o,by simp;omega,HB1.o.grown HGS.o (by omega) (fun k e=>by cases e;omega)⟩
      ·rw[HLEN.o];exact B1.o.set 0 _
      ·rw[HID1.o,zh5];unfold zfh;rw[if_neg HK19.o];exact(HI.o.mono (by simp)).kept HGS.o (by simp)
    ·have HZ:=zh hz;have hz1:(we == 0)=false:=by simpa using hz
     have hz2:(we != 0)=true:=by simpa using hz
     have x0:=c1.row 0 _ rfl;have r0:=b3.row 0 _ rfl;have r1:=b3.row 1 _ rfl;have r2:=b3.row 2 _ rfl;have f0:=b3.frozen 0;have f1:=b3.frozen 1;have f2:=b3.frozen 2;clear b1 b2 b3 c1 hz;gi_wp2;refine⟨((KF1.o.trans ((KeepsOthers.setCell W1 ⟨R,0,none⟩ _).from _)).trans ((KeepsOthers.setCell _ ⟨R,1,none⟩ _).from _)).trans ((KeepsOthers.setCell _ ⟨R,2,none⟩ _).from _),rfl,⟨_,_,0,?_,HQV.o⟩,by rw[HWE.o];exact HZ.o,?_⟩
     ·rw[HWE.o];exact((B3.o.set 0 _).set 1 _).set 2 _
     ·exact((HB1.o.setCell (p:=⟨R,0,none⟩) hRw _).setCell (p:=⟨R,1,none⟩) hRw _).setCell (p:=⟨R,2,none⟩) hRw _
   case done=>
    rintro D xs W hD hS ⟨⟨b1,b2,b3⟩,i1,f1,hSW,hB⟩ hK;have e:res=0:=by rw[HCK.o];unfold zfa;rw[<-show _=_ from hS];exact f1
    have HE:=zh e;have HB:=zh hB;have HS':=zh hS;have B3:=zh b3;have r0:=b3.row 0 _ rfl;have r1:=b3.row 1 _ rfl;have r2:=b3.row 2 _ rfl;have g0:=b3.frozen 0;have g1:=b3.frozen 1;have g2:=b3.frozen 2;clear e hB hS i1 b1 b2 b3;gi_wp2;have b3':=((B3.o.set 0 (.int .i64 0)).set 1 (.slice none 0 0)).set 2 (.int .i64 0);have hB':=((HB.o.setCell (p:=⟨R,0,none⟩) hRw (.int .i64 0)).setCell (p:=⟨R,1,none⟩) hRw (.slice none 0 0)).setCell (p:=⟨R,2,none⟩) hRw (.int .i64 0);have hK':(((W.setCell ⟨R,0,none⟩ (.int .i64 0)).setCell ⟨R,1,none⟩ (.slice none 0 0)).setCell ⟨R,2,none⟩ (.int .i64 0)).heap[D]?=some (.deferred (some [])):=by
     have hne:D≠R:=by have:=HS3.o;omega
     rw[Below.heap_setCell _ _ _ D hne,Below.heap_setCell _ _ _ D hne,Below.heap_setCell _ _ _ D hne];exact hK
    rw[HE.o];exact⟨by simp,.inl ⟨_,_,rfl,run_takeDeferred hK',_,zc6 rfl (b3'.kept (grownBy_putObj' _ D _) (fun e=>by cases e;have:=HS3.o;omega)).row,0,.slice none 0 0,0,rfl,zeK,hB'.trans (belowK_b (w:=w) (Nat.le_refl _) _ D _ _ (by have:=HS3.o;omega) hK' rfl rfl)⟩⟩
   case stop=>
    rintro D c pre W hD hS ⟨rfl,⟨d,path,at',b1,hp⟩,f1,hB⟩ hK;have e:res=zbm 0 [] (pre.map Place.n):=by rw[HCK.o];exact zkn hS f1
    have HE:=zh e;have HB:=zh hB;have HP:=zh hp;have B1:=zh b1;clear e hB hS hp b1;gi_wp2;rw[HE.o];exact⟨by simp,.inl ⟨_,_,rfl,run_takeDeferred hK,_,zc6 rfl (B1.o.kept (grownBy_putObj' _ D _) (fun e=>by cases e;have:=HS3.o;omega)).row,d,path,at',rfl,HP.o,HB.o.trans (belowK_b (w:=w) (Nat.le_refl _) W D _ _ (by have:=HS3.o;omega) hK rfl rfl)⟩⟩
end Go.Fld
