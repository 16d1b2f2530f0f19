import Derived.Test.YthocbeghnkacnaaGreatDoorT00
import Derived.WalkKit
import Derived.ProofKit
import Derived.Below
import Derived.Lib.Hide
set_option linter.unusedVariables false
set_option linter.unusedSimpArgs false
set_option linter.unnecessarySimpa false
set_option maxRecDepth 100000
set_option maxHeartbeats 16000000
namespace Go.Fld
open Go.RowKit
inductive Fd where
 | mk (nm:ByteArray) (nl:Bool) (k wd id ix:Int) (kids:List Fd)
namespace Fd
def nm:Fd->ByteArray | .mk a _ _ _ _ _ _=>a
def nl:Fd->Bool | .mk _ a _ _ _ _ _=>a
def k:Fd->Int | .mk _ _ a _ _ _ _=>a
def wd:Fd->Int | .mk _ _ _ a _ _ _=>a
def id:Fd->Int | .mk _ _ _ _ a _ _=>a
def ix:Fd->Int | .mk _ _ _ _ _ a _=>a
def kids:Fd->List Fd | .mk _ _ _ _ _ _ a=>a
end Fd
abbrev f7 (f:Fd)(p:Option Addr)(c:Nat):List Value:=[.string f.nm,.bool f.nl,.int .i64 f.k,.int .i64 f.wd,.int .i64 f.id,.int .i64 f.ix,.slice p f.kids.length c]
def zah (n:Int):Prop:=-9223372036854775808<=n/\n<=9223372036854775807
mutual
def FdAt (w:World):Fd->List Value->Prop
 | .mk nm nl k wd id ix kids,cs=>nm.size<=maxLen/\zah k/\zah wd/\zah id/\zah ix /\
   ∃p cap,cs=[.string nm,.bool nl,.int .i64 k,.int .i64 wd,.int .i64 id,.int .i64 ix,.slice p kids.length cap]/\kids.length<=cap/\cap<=maxLen/\FdsC w p 0 kids
def FdsC (w:World)(p:Option Addr):Nat->List Fd->Prop
 | _,[]=>True
 | off,f :: r=>(∃b o cs,p=some ⟨b,o,none⟩/\(∀(j:Nat) (u:Value),cs[j]?=some u->w.cell? ⟨b,o+off+j,none⟩=some u)/\FdAt w f cs)/\FdsC w p (off+7) r
end
def FdsAt (w:World)(l:List Fd)(v:Value):Prop:=∃p cap,v=.slice p l.length cap/\l.length<=cap/\cap<=maxLen/\FdsC w p 0 l
theorem zaa {w w':World}(h:Below w.heap.size w w'){a:Addr}{v:Value}(hv:w.cell? a=some v):w'.cell? a=some v:=
 (World.cell?_of_block (h.block _ (World.block_lt_of_cell? w a hv))).trans hv
mutual
theorem FdAt.below {w w':World}(hb:Below w.heap.size w w'):∀ {f:Fd} {cs:List Value},FdAt w f cs->FdAt w' f cs
 | .mk nm nl k wd id ix kids,cs,h=>by
  simp only[FdAt] at h ⊢;obtain⟨h0,h1,h2,h3,h4,p,cap,h5,h6,h7,h8⟩:=h;exact⟨h0,h1,h2,h3,h4,p,cap,h5,h6,h7,FdsC.below hb h8⟩
theorem FdsC.below {w w':World}(hb:Below w.heap.size w w'){p:Option Addr}:∀ {l:List Fd} {off:Nat},FdsC w p off l->FdsC w' p off l
 | [],off,h=>trivial
 | f :: r,off,h=>by
  simp only[FdsC] at h ⊢;obtain⟨⟨b,o,cs,h1,h2,h3⟩,h4⟩:=h;exact⟨⟨b,o,cs,h1,fun j u hj=>zaa hb (h2 j u hj),FdAt.below hb h3⟩,FdsC.below hb h4⟩
end
theorem FdsAt.below {w w':World}(hb:Below w.heap.size w w'){l:List Fd}{v:Value}(h:FdsAt w l v):FdsAt w' l v:=by
 obtain⟨p,cap,h1,h2,h3,h4⟩:=h;exact⟨p,cap,h1,h2,h3,h4.below hb⟩
theorem FdsC.get {w:World}{p:Option Addr}:∀ {l:List Fd} {off:Nat},FdsC w p off l->∀(i:Nat) (hi:i<l.length),∃b o cs,p=some ⟨b,o,none⟩/\(∀(j:Nat) (u:Value),cs[j]?=some u->w.cell? ⟨b,o+(off+7*i)+j,none⟩=some u)/\FdAt w l[i] cs
 | [],off,h,i,hi=>absurd hi (Nat.not_lt_zero _)
 | f :: r,off,h,i,hi=>by
  simp only[FdsC] at h;obtain⟨h1,h4⟩:=h;cases i with
  | zero=>simpa using h1
  | succ i=>
   obtain⟨b,o,cs,e1,e2,e3⟩:=FdsC.get h4 i (by simpa using hi);refine⟨b,o,cs,e1,fun j u hj=>?_,by simpa using e3⟩;have e:o+(off+7*(i+1))+j=o+(off+7+7*i)+j:=by omega
   rw[e];exact e2 j u hj
theorem FdsC.take {w:World}{p:Option Addr}:∀ {l:List Fd} {off:Nat} (n:Nat),FdsC w p off l->FdsC w p off (l.take n)
 | [],off,n,h=>by simp[FdsC]
 | f :: r,off,0,h=>by simp[FdsC]
 | f :: r,off,n+1,h=>by
  simp only[FdsC] at h;simp only[List.take_succ_cons,FdsC];exact⟨h.1,FdsC.take n h.2⟩
theorem FdAt.shape {w:World}{f:Fd}{cs:List Value}(h:FdAt w f cs):∃p cap,cs=[.string f.nm,.bool f.nl,.int .i64 f.k,.int .i64 f.wd,.int .i64 f.id,.int .i64 f.ix,.slice p f.kids.length cap]/\FdsAt w f.kids (.slice p f.kids.length cap)/\f.nm.size<=maxLen/\zah f.k/\zah f.wd/\zah f.id/\zah f.ix:=by
 cases f with
 | mk nm nl k wd id ix kids=>
  simp only[FdAt] at h;obtain⟨h0,h1,h2,h3,h4,p,cap,h5,h6,h7,h8⟩:=h;exact⟨p,cap,h5,⟨p,cap,rfl,h6,h7,h8⟩,h0,h1,h2,h3,h4⟩
theorem FdsC.seven {w:World}{p:Option Addr}{l:List Fd}(h:FdsC w p 0 l)(i:Nat)(hi:i<l.length):∃b o q cap,p=some ⟨b,o,none⟩/\FdAt w l[i] [.string l[i].nm,.bool l[i].nl,.int .i64 l[i].k,.int .i64 l[i].wd,.int .i64 l[i].id,.int .i64 l[i].ix,.slice q l[i].kids.length cap] /\
  w.cell? ⟨b,o+i*7,none⟩=some (.string l[i].nm)/\w.cell? ⟨b,o+i*7+1,none⟩=some (.bool l[i].nl)/\w.cell? ⟨b,o+i*7+2,none⟩=some (.int .i64 l[i].k)/\w.cell? ⟨b,o+i*7+3,none⟩=some (.int .i64 l[i].wd) /\
  w.cell? ⟨b,o+i*7+4,none⟩=some (.int .i64 l[i].id)/\w.cell? ⟨b,o+i*7+5,none⟩=some (.int .i64 l[i].ix)/\w.cell? ⟨b,o+i*7+6,none⟩=some (.slice q l[i].kids.length cap):=by
 obtain⟨b,o,cs,h1,h2,h3⟩:=h.get i hi;obtain⟨q,cap,hcs,_⟩:=h3.shape;subst hcs;have e:∀j,o+(0+7*i)+j=o+i*7+j:=fun j=>by omega
 have k:=fun j u hj=>(e j) ▸ h2 j u hj;exact⟨b,o,q,cap,h1,h3,k 0 _ rfl,k 1 _ rfl,k 2 _ rfl,k 3 _ rfl,k 4 _ rfl,k 5 _ rfl,k 6 _ rfl⟩
def zhQ (c:Nat):Bool:=((((decide (97<=c) && decide (c<=122)) || (decide (65<=c) && decide (c<=90))) || (decide (48<=c) && decide (c<=57))) || decide (c=95))
def zeJ (i:Nat)(c:UInt8):Bool:=zhQ c.toNat && !(decide (i=0) && (decide (48<=c.toNat) && decide (c.toNat<=57)))
def zfr:Nat->List UInt8->Bool
 | _,[]=>true
 | i,c :: r=>zeJ i c && zfr (i+1) r
def zdw (s:ByteArray):Bool:=zfr 0 s.data.toList && (decide (0<s.size) && decide (s.size<=48))
def zbE (k:Int):Nat:=if k=15\/k=20\/k=16\/k=18\/k=19 then 1 else 0
def zbH (k:Int):Nat:=if k=15\/k=20\/k=16\/k=19 then 1 else if k=17\/k=18 then 32 else 0
def zbV (k wd:Int):Bool:=if k=14 then decide (1<=wd) && decide (wd<=16) else if k=16 then decide (1<=wd) && decide (wd<=64) else decide (wd=0)
def zb4 (k id ix:Int):Bool:=if k=19 then(decide (0<=id) && decide (id<32)) && (decide (3<=ix) && decide (ix<=10)) else decide (id=0) && decide (ix=0)
def zaU (f:Fd):Bool:=(decide (1<=f.k) && decide (f.k<=20)) && (zbV f.k f.wd && (zb4 f.k f.id f.ix && (decide (zbE f.k<=f.kids.length) && decide (f.kids.length<=zbH f.k))))
def zc4 (f:Fd):Bool:=match f.kids with
 | []=>false
 | g :: _=>g.nl
def zc5 (f:Fd):Bool:=if f.k=1 then f.nl else if f.k=18 then !f.nl else if f.k=20 then f.nl == zc4 f else true
structure Node where
 d:Nat
 ahead:List Fd
 f:Fd
 inD:Bool
def za7 (n:Node)(ahead:Nat)(ids:List Int):Int:=
 if 64<n.d then 33 else
 if 256<=ahead then 34 else
 if zdw n.f.nm=false then 30 else
 if(n.ahead.any fun g=>g.nm.toList == n.f.nm.toList)=true then 31 else
 if zaU n.f=false then 32 else
 if zc5 n.f=false then 35 else
 if(n.inD && (decide (n.f.k=19) || decide (n.f.k=20)))=true then 36 else
 if(decide (n.f.k=19) && (zc4 n.f || ids.contains n.f.id))=true then 36 else 0
def zfh (ids:List Int)(n:Node):List Int:=if n.f.k=19 then n.f.id :: ids else ids
def zbm:Nat->List Int->List Node->Int
 | _,_,[]=>0
 | a,ids,n :: r=>if za7 n a ids=0 then zbm (a+1) (zfh ids n) r else za7 n a ids
def zaY (sub:Nat->List Fd->Bool->List Node)(d:Nat)(l:List Fd)(inD:Bool):Nat->List Fd->List Node
 | _,[]=>[]
 | i,f :: r=>⟨d,l.take i,f,inD⟩ :: (sub (d+1) f.kids (inD || decide (f.k=19)) ++ zaY sub d l inD (i+1) r)
def zbR:Nat->Nat->List Fd->Bool->List Node
 | 0,d,l,inD=>zaY (fun _ _ _=>[]) d l inD 0 l
 | r+1,d,l,inD=>zaY (zbR r) d l inD 0 l
def zfa (l:List Fd):Int:=zbm 0 [] (zbR 64 1 l false)
def zhR (l:List Fd)(notes:List (Nat × Nat)):Int:=
 if 32<l.length then 34 else if 16<notes.length then 34 else if(notes.any fun n=>decide (256<n.1) || decide (256<n.2))=true then 37 else zfa l
def zbh (f:Fd):Int:=zfa [f]
end Go.Fld
