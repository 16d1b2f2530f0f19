import Derived.Test.YthocbeghnkacnaaGreatDoorT05
import Derived.RangeFuncNested
import Derived.RangeFuncBound
import Derived.RangeFuncCalls
import Derived.RangeFuncLeaves
import Derived.RangeFuncKeeps
import Derived.Shelf.Abstract
import Derived.Shelf.RegionOpen
import Derived.OwnWalkIn
import Derived.TacticsInMore
import Derived.LoopNIn
import Derived.LoopIn
import Derived.Maps.OwnIn
set_option linter.unusedVariables false
set_option linter.unusedSimpArgs false
set_option linter.unnecessarySimpa false
set_option maxRecDepth 100000
set_option maxHeartbeats 16000000
namespace Go.Fld
open Go Go.RowKit Go.Proofs Go.ChangeShapes Go.WideShapes Go.ChangeAt Go.Shelf
attribute [local go_sem] Oper.semAt_some
theorem zjq {F:Fence}{n:Nat}{P:Program}{c:Code}{K:Act->World->Prop}{Q:Exit->Act->World->Prop}{a:Act}{w:World}(h:c.wpIn F n P (Exit.then K (fun _ _ _=>False)) a w):c.wpIn F n P (Exit.then K Q) a w:=
 wpIn_mono h (fun e a w h=>by cases e <;> first|exact h|exact h.elim)
theorem zkI {n l lb lo ll cap yb fb g p gcap k:Nat}{inD:Bool}{nm:ByteArray}{nl:Bool}{fk wd id ix:Int}{q:Option Addr}{kl cap':Nat}{w:World}{R:Ending->World->Prop}
  {x0 x4 x5 x6 x7 x8 x9 x13 x14 x15 x16 x17 x18 x19 x20 x21 x22 x23 x24 x25 x26 x27 x28 x29 x30 x31 x32 x33 x34 x35 x36 x37 x38 x39 x40 x41 x42 x43 x44 x45 x46 x47 x48 x49 x50 x51 x52 x53 x54 x55:Value} (hmx:Tryz.prog.follows .mixedOrders=true) (hk:k<=ll) (hll:ll<=cap) (hcap:cap<=9223372036854775807)
  (y1:w.cell? ⟨yb,0,none⟩=some (.func (.yield l) #[] #[]))
  (f0:w.cell? ⟨fb,0,none⟩=some (.string nm))
  (f1:w.cell? ⟨fb,1,none⟩=some (.bool nl))
  (f2:w.cell? ⟨fb,2,none⟩=some (.int .i64 fk))
  (f3:w.cell? ⟨fb,3,none⟩=some (.int .i64 wd))
  (f4:w.cell? ⟨fb,4,none⟩=some (.int .i64 id))
  (f5:w.cell? ⟨fb,5,none⟩=some (.int .i64 ix))
  (f6:w.cell? ⟨fb,6,none⟩=some (.slice q kl cap'))
  (hY:YieldAt Fence.wide (n-1) Tryz.prog l #[.agg #[.slice (some ⟨g,0,none⟩) (p+1) gcap,.slice (some ⟨lb,lo,none⟩) k cap,.string nm,.bool nl,.int .i64 fk,.int .i64 wd,.int .i64 id,.int .i64 ix,.slice q kl cap',.bool inD]] w.drew fun e W'=>∃t:Bool,e=.returned (.bool t)/\R e W')
  {K:Act->World->Prop} (hK:∀(t:Bool) (W':World),R (.returned (.bool t)) W'->K { tmps:=#[x0,.slice (some ⟨lb,lo,none⟩) ll cap,.bool inD,.pointer (some ⟨yb,0,none⟩),x4,x5,x6,x7,x8,x9,.int .i64 (k:Nat),.pointer (some ⟨fb,0,none⟩),.slice (some ⟨g,0,none⟩) (p+1) gcap,x13,x14,x15,x16,x17,x18,x19,x20,x21,x22,x23,x24,.func (.yield l) #[] #[],.slice (some ⟨g,0,none⟩) (p+1) gcap,.slice (some ⟨lb,lo,none⟩) ll cap,.int .i64 (k:Nat),.slice (some ⟨lb,lo,none⟩) k cap,.agg #[.string nm,.bool nl,.int .i64 fk,.int .i64 wd,.int .i64 id,.int .i64 ix,.slice q kl cap'],.bool inD,.agg #[.slice (some ⟨g,0,none⟩) (p+1) gcap,.slice (some ⟨lb,lo,none⟩) k cap,.string nm,.bool nl,.int .i64 fk,.int .i64 wd,.int .i64 id,.int .i64 ix,.slice q kl cap',.bool inD],.bool t,.bool (!t),x35,x36,x37,x38,x39,x40,x41,x42,x43,x44,x45,x46,x47,x48,x49,x50,x51,x52,x53,x54,x55],defers:=[] } W')
 :(Code.region 5 #[{ dst:=some 25,op:=Op.load 170 (Operand.tmp 3),type:=170,pos:= "kind.go:122",after:=#[],guard:=none },{ dst:=some 26,op:=Op.move (Operand.tmp 12),type:=50,pos:= "kind.go:122",after:=#[],guard:=none },{ dst:=some 27,op:=Op.move (Operand.tmp 1),type:=22,pos:= "kind.go:122",after:=#[],guard:=none },{ dst:=some 28,op:=Op.move (Operand.tmp 10),type:=3,pos:= "kind.go:122",after:=#[],guard:=none },{ dst:=some 29,op:=Op.slice 22 (Operand.tmp 27) none (some (Operand.tmp 28)) none,type:=22,pos:= "kind.go:122",after:=#[{ on:=2,ground:=Ground.data },{ on:=3,ground:=Ground.data }],guard:=none },{ dst:=some 30,op:=Op.load 26 (Operand.tmp 11),type:=26,pos:= "kind.go:122",after:=#[],guard:=none },{ dst:=some 31,op:=Op.move (Operand.tmp 2),type:=4,pos:= "kind.go:122",after:=#[],guard:=none },{ dst:=some 32,op:=Op.build 147 #[(0,Operand.tmp 26),(1,Operand.tmp 29),(2,Operand.tmp 30),(3,Operand.tmp 31)],type:=147,pos:= "kind.go:122",after:=#[{ on:=1,ground:=Ground.data },{ on:=4,ground:=Ground.data },{ on:=5,ground:=Ground.data },{ on:=6,ground:=Ground.data }],guard:=none },{ dst:=some 33,op:=Op.call { callee:=Callee.value (Operand.tmp 25),args:=#[Operand.tmp 32],argTypes:=#[147] },type:=4,pos:= "kind.go:122",after:=#[{ on:=0,ground:=Ground.data },{ on:=7,ground:=Ground.data }],guard:=none },{ dst:=some 34,op:=Op.unOp UnOp.not 4 (Operand.tmp 33),type:=4,pos:= "kind.go:122",after:=#[{ on:=8,ground:=Ground.data }],guard:=none }] true).wpIn Fence.wide n Tryz.prog (Exit.then K (fun _ _ _=>False)) { tmps:=#[x0,.slice (some ⟨lb,lo,none⟩) ll cap,.bool inD,.pointer (some ⟨yb,0,none⟩),x4,x5,x6,x7,x8,x9,.int .i64 (k:Nat),.pointer (some ⟨fb,0,none⟩),.slice (some ⟨g,0,none⟩) (p+1) gcap,x13,x14,x15,x16,x17,x18,x19,x20,x21,x22,x23,x24,x25,x26,x27,x28,x29,x30,x31,x32,x33,x34,x35,x36,x37,x38,x39,x40,x41,x42,x43,x44,x45,x46,x47,x48,x49,x50,x51,x52,x53,x54,x55],defers:=[] } w:=by
 have hdd:∀k:Nat,(Fence.wide.depth.isSome=true->1<=k):=fun k h=>by simp[Fence.wide] at h
 obtain⟨fn,tmps,assign,body,hyy,hRR⟩:=hY;have hro:Fence.wide.round=none:=rfl;have HK:=zh hK;clear hK;have hfn:∀f,Fence.wide.fn f:=fun _=>trivial
 gi_region_with_o ((try refine⟨hdd _,?_⟩);refine hRR.mono ?_;clear hRR hyy;rintro e W3 ⟨t,rfl,HT⟩)
 all_goals exact HK.o _ _ HT
end Go.Fld
namespace Go.Fld
open Go Go.RowKit Go.Proofs Go.ChangeShapes Go.WideShapes Go.ChangeAt Go.Shelf
attribute [local go_sem] Oper.semAt_some
theorem zn2 {F:Fence}(hd:F.depth=none)(k:Nat):F.room k:=fun d h=>by rw[hd] at h;cases h
theorem zn3 {F:Fence}(hd:F.depth=none){m m':Nat}{P:Program}{l:Nat}{f:FuncId}{tmps:Array Value}{assign body:Code}{w:World}{R:Ending->World->Prop}
  (h:RoundIn F m P l f tmps assign body w R):RoundIn F m' P l f tmps assign body w R:=⟨h.1,fun c cs _=>h.2 c cs (zn2 hd _)⟩
theorem zn4 {F:Fence}(hd:F.depth=none){m:Nat}(m':Nat){P:Program}{l:Nat}{args:Array Value}{W:World}{R:Ending->World->Prop}(h:YieldAt F m P l args W R):YieldAt F m' P l args W R:=by
 obtain⟨fn,tmps,assign,body,hy,hR⟩:=h;exact⟨fn,tmps,assign,body,hy,zn3 hd hR⟩
def zjr (v:Value)(d:Nat):Prop:=∃p c,v=.slice p d c/\d<=c/\c<=maxLen/\(p=none->d=0)
theorem WayAt.v {w:World}{d:Nat}{v:Value}(h:WayAt w d v):zjr v d:=by
 rcases h with⟨rfl,rfl⟩|⟨b,o,cap,xs,rfl,hc,hm,_⟩
 ·exact⟨none,0,rfl,Nat.le_refl _,by decide,fun _=>rfl⟩
 ·exact⟨_,cap,rfl,hc,hm,fun h=>by cases h⟩
structure Place (w0:World) where
 n:Node
 q:Option Addr
 qc:Nat
 av:Value
 cs:List Value
 hd:n.d<=65
 ha:FdsAt w0 n.ahead av
 hf:FdAt w0 n.f cs
 hq:zjr (.slice q n.d qc) n.d
def Place.v {w0:World}(x:Place w0):Value:=zf8 x.q x.qc x.av x.cs x.n
structure Kp (n0 n1:Nat)(W W':World):Prop where
 below:Below n0 W W'
 cells:∀(k:Nat) (o:Obj),n1<=k->W.heap[k]?=some o->o.isCells=true->W'.heap[k]?=some o
theorem Kp.refl (n0 n1:Nat)(W:World):Kp n0 n1 W W:=⟨Below.refl _ _,fun _ _ _ h _=>h⟩
theorem Kp.trans {n0 n1:Nat}{A B C:World}(h:Kp n0 n1 A B)(k:Kp n0 n1 B C):Kp n0 n1 A C:=⟨h.below.trans k.below,fun i o hi ho hc=>k.cells i o hi (h.cells i o hi ho hc) hc⟩
theorem Kp.of_below {n0 n1:Nat}{A B:World}(h0:n0<=A.heap.size)(h:Below A.heap.size A B):Kp n0 n1 A B:=
 ⟨h.mono h0,fun k o _ ho _=>(h.block k (Array.getElem?_eq_some_iff.1 ho).1).trans ho⟩
theorem Kp.cell {n0 n1:Nat}{A B:World}(h:Kp n0 n1 A B){a:Addr}{v:Value}(ha:n1<=a.block)(hv:A.cell? a=some v):B.cell? a=some v:=by
 obtain⟨o,ho,hc⟩:=cells_of_cell hv;exact(World.cell?_of_block (w:=A) ((h.cells _ o ha ho hc).trans ho.symm)).trans hv
theorem Kp.size {n0 n1:Nat}{A B:World}(h:Kp n0 n1 A B):A.heap.size<=B.heap.size:=h.below.size
theorem zed (sub:Nat->List Fd->Bool->List Node)(d:Nat)(l:List Fd)(inD:Bool):∀(a b:List Fd) (i:Nat),zaY sub d l inD i (a ++ b)=zaY sub d l inD i a ++ zaY sub d l inD (i+a.length) b
 | [],b,i=>by simp[zaY]
 | f :: r,b,i=>by
  have:=zed sub d l inD r b (i+1);simp only[List.cons_append,zaY,this,List.length_cons,List.append_assoc];rw[show i+1+r.length=i+(r.length+1) by omega]
def zfi (sub:Nat->List Fd->Bool->List Node)(d:Nat)(l:List Fd)(inD:Bool)(k:Nat):List Node:=zaY sub d l inD 0 (l.take k)
theorem zm6 (sub:Nat->List Fd->Bool->List Node)(d:Nat)(l:List Fd)(inD:Bool)(k:Nat)(hk:k<l.length) :
  zfi sub d l inD (k+1)=zfi sub d l inD k ++ (⟨d,l.take k,l[k],inD⟩ :: sub (d+1) l[k].kids (inD || decide (l[k].k=19))):=by
 unfold zfi;rw[List.take_succ_eq_append_getElem hk,zed];simp[zaY,Nat.min_eq_left (Nat.le_of_lt hk)]
theorem zn5 (sub:Nat->List Fd->Bool->List Node)(d:Nat)(l:List Fd)(inD:Bool):zfi sub d l inD l.length=zaY sub d l inD 0 l:=by
 unfold zfi;rw[List.take_length]
theorem zg5 (sub:Nat->List Fd->Bool->List Node)(d:Nat)(l:List Fd)(inD:Bool)(k:Nat):zfi sub d l inD k <+: zaY sub d l inD 0 l:=by
 refine⟨zaY sub d l inD (0+(l.take k).length) (l.drop k),?_⟩;unfold zfi;rw[<-zed,List.take_append_drop]
structure Own3 (l yb mb db:Nat)(W:World):Prop where
 y:W.cell? ⟨yb,0,none⟩=some (.func (.yield l) #[] #[])
 m:W.cell? ⟨mb,0,none⟩=some (.int .i64 65)
 d:W.cell? ⟨db,0,none⟩=some (.func (.func 73) #[] #[.pointer (some ⟨yb,0,none⟩),.pointer (some ⟨mb,0,none⟩),.pointer (some ⟨db,0,none⟩)])
theorem Own3.kp {l yb mb db n0 n1:Nat}{A B:World}(h:Own3 l yb mb db A)(hy:n1<=yb)(hm:n1<=mb)(hd:n1<=db)(k:Kp n0 n1 A B):Own3 l yb mb db B:=
 ⟨k.cell hy h.y,k.cell hm h.m,k.cell hd h.d⟩
theorem WayAt.of_row {w:World}{base:Nat}{v:Value}{d:Nat}{xs:List Value}(h:w.ownsRow base 3 1 v (d+1) xs)(h1:∀u ∈ xs,u.oneCell'=true) :
  ∃g cap,v=.slice (some ⟨g,0,none⟩) (d+1) cap/\base<=g/\g<w.heap.size/\WayAt w (d+1) v:=by
 obtain⟨e,h2⟩:=h;rcases h2 with⟨_,h2⟩|⟨g,cap,cur,hv,hg,hh,hc,hm,hs,ht⟩
 ·omega
 ·refine⟨g,cap,hv,hg,(Array.getElem?_eq_some_iff.1 hh).1,.inr ⟨g,0,cap,xs,hv,hc,hm,by omega,fun j u hj=>?_,h1⟩⟩;have hj':j<d+1:=by
   have:=(List.getElem?_eq_some_iff.1 hj).1;omega
  rw[<-ht,List.getElem?_take] at hj;split at hj
  ·unfold World.cell?;rw[hh];simpa using hj
  ·cases hj
def WayIn (n1:Nat)(w:World)(d:Nat)(v:Value):Prop:=WayAt w d v/\∀b o n c,v=.slice (some ⟨b,o,none⟩) n c->n1<=b
theorem WayIn.kp {n0 n1:Nat}{A B:World}{d:Nat}{v:Value}(h:WayIn n1 A d v)(k:Kp n0 n1 A B):WayIn n1 B d v:=by
 refine⟨?_,h.2⟩;rcases h.1 with h0|⟨b,o,cap,xs,hv,hc,hm,hx,hcell,h1⟩
 ·exact .inl h0
 ·exact .inr ⟨b,o,cap,xs,hv,hc,hm,hx,fun j u hj=>k.cell (h.2 _ _ _ _ hv) (hcell j u hj),h1⟩
def zpj {w0:World}(n0 n1:Nat)(J Jx:List (Place w0)->World->Prop)(pre:List (Place w0))(ns:List Node)(W:World)(e:Ending)(W':World):Prop:=
 (e=.returned (.bool true)/\(∃xs,xs.map Place.n=ns/\J (pre ++ xs) W')/\Kp n0 n1 W W')\/(e=.returned (.bool false)/\∃xs,xs.map Place.n <+: ns/\Jx (pre ++ xs) W')
def zpk {w0:World}(n0 n1 l yb mb db N:Nat)(J Jx:List (Place w0)->World->Prop)(p:Nat)(nodes:List Fd->Bool->List Node):Prop:=
 ∀(L:List Fd) (inD:Bool) (v path:Value) (pre:List (Place w0)) (W:World) (n:Nat),
   WayIn n1 W p path->n1<=W.heap.size->Below n0 w0 W->FdsAt w0 L v->Own3 l yb mb db W->J pre W->pre.length+(nodes L inD).length<=N ->
   CallsIn Fence.wide n Tryz.prog 73 #[path,v,.bool inD,.pointer (some ⟨yb,0,none⟩),.pointer (some ⟨mb,0,none⟩),.pointer (some ⟨db,0,none⟩)] W (zpj n0 n1 J Jx pre (nodes L inD) W)
section
variable {n0 n1 l yb mb db N:Nat} {w0:World} {J Jx:List (Place w0)->World->Prop}
theorem zjO (hn0:n0<=n1)(hw0:w0.heap.size=n0)(hy:n1<=yb)(hm:n1<=mb)(hdb:n1<=db)
  (hcl:∀(n:Nat) (w:World) (d:Nat) (v:Value),WayAt w d v->d<=64->CallsIn Fence.wide n Tryz.prog 74 #[v] w fun e w'=>∃v' xs,e=.returned v'/\w'.ownsRow w.heap.size 3 1 v' d xs/\(∀u ∈ xs,u.oneCell'=true)/\Below w.heap.size w w')
  (hJ:∀s A B,J s A->Below A.heap.size A B->J s B)
  (hY:∀m pre (x:Place w0) W,J pre W->pre.length<N->YieldAt Fence.wide m Tryz.prog l #[x.v] W fun e W'=>
   (e=.returned (.bool true)/\J (pre ++ [x]) W'/\Kp n0 n1 W W')\/(e=.returned (.bool false)/\Jx (pre ++ [x]) W'))
  (p:Nat) (hp:p<=64) (sub:Nat->List Fd->Bool->List Node) (hrec:p<64->zpk n0 n1 l yb mb db N J Jx (p+1) (sub (p+2))) (hz:p=64->∀d L b,sub d L b=[]) :
  zpk n0 n1 l yb mb db N J Jx p (fun L inD=>zaY sub (p+1) L inD 0 L):=by
 intro L inD v path pre W n hway hW hb hL hO hj hN;have hro:Fence.wide.round=none:=rfl;have h66:Fence.wide.fn 74:=trivial;have hmx:Tryz.prog.follows .mixedOrders=true:=by kernel_rfl
 obtain⟨b,cap,rfl,hlc,hcm,hC⟩:=hL;have hdd:∀k:Nat,(Fence.wide.depth.isSome=true->1<=k):=fun k h=>by simp[Fence.wide] at h
 obtain⟨i0,hi,hz0,hz1,hz2⟩:=info_parts zkB;unfold maxLen at hcm;have HC:=zh hC;have HW:=zh hway;have HO:=zh hO;have HJ:=zh hj;have HN:=zh hN;have HB:=zh hb;have HR:=zh hrec;have HZ:=zh hz;have HY:=zh hY;have HCL:=zh hcl;have HJB:=zh hJ;clear hC hway hO hj hN hb hrec hz hY hcl hJ;refine callsIn_of_wp Tryz.func73 rfl (trivial:Fence.wide.fn 73) ?_ hro;simp only[Tryz.ntmps73,List.size_toArray,List.length_cons,List.length_nil,Nat.reduceAdd,Nat.reduceSub,Array.replicate_succ,Array.replicate_zero,List.push_toArray,List.append_toArray,List.nil_append,List.cons_append];gi_wp2
 gi_loopw [15] (fun i wr=>∃(k:Nat) (xs:List (Place w0)),k<=L.length/\i=.int .i64 k/\Hid (xs.map Place.n=zfi sub (p+1) L inD k)/\Hid (J (pre ++ xs) wr)/\Hid (Kp n0 n1 W wr)) (fun i _=>L.length-(intOf i).toNat)
 case atStart=>
  exact⟨0,[],by omega,rfl,zh rfl,zh (by simpa using HJ.o),zh (Kp.refl _ _ _)⟩
 case round=>
  obtain⟨k,xs,hk,rfl,HX,HJX,HK⟩:=hrel;by_cases hlt:k<L.length
  ·obtain⟨b',o',q,cap',rfl,e3,c0,c1,c2,c3,c4,c5,c6⟩:=HC.o.seven k hlt;have E3:=zh e3;have hbw:Below w0.heap.size w0 wr:=by have:=HB.o.trans HK.o.below;rw[<-hw0] at this;exact this
   replace c0:=zaa hbw c0;replace c1:=zaa hbw c1;replace c2:=zaa hbw c2;replace c3:=zaa hbw c3;replace c4:=zaa hbw c4;replace c5:=zaa hbw c5;replace c6:=zaa hbw c6;clear e3 hbw;have HUS:=zh (zm6 sub (p+1) L inD k hlt);generalize hf:L[k]=f at *;have HF:=zh hf;clear hf;gi_wp2;have KA:Kp n0 n1 wr (wr.alloc (.cells #[.string f.nm,.bool f.nl,.int .i64 f.k,.int .i64 f.wd,.int .i64 f.id,.int .i64 f.ix,.slice q f.kids.length cap'] 26)):=Kp.of_below (by have:=HK.o.size;omega) ((Below.refl _ wr).alloc (Nat.le_refl _) _);have R:=RowAt.new wr [Value.string f.nm,.bool f.nl,.int .i64 f.k,.int .i64 f.wd,.int .i64 f.id,.int .i64 f.ix,.slice q f.kids.length cap'] 26;obtain⟨A,hA⟩:=nm (wr.alloc (.cells #[.string f.nm,.bool f.nl,.int .i64 f.k,.int .i64 f.wd,.int .i64 f.id,.int .i64 f.ix,.slice q f.kids.length cap'] 26));have KA':Kp n0 n1 wr A:=by rw[hA];exact KA
   have R:RowAt A wr.heap.size [Value.string f.nm,.bool f.nl,.int .i64 f.k,.int .i64 f.wd,.int .i64 f.id,.int .i64 f.ix,.slice q f.kids.length cap']:=by rw[hA];exact R
   have hAs:A.heap.size=wr.heap.size+1:=by rw[hA,World.size_alloc]
   rw[<-hA];have BA:Below wr.heap.size wr A:=by rw[hA];exact(Below.refl _ wr).alloc (Nat.le_refl _) _
   clear KA hA;refine⟨hdd _,?_⟩;refine(HCL.o (n-1) A p path ((HW.o.kp (HK.o.trans KA')).1) hp).mono ?_;rintro e W1 ⟨v1,ys,rfl,hown,hone,hb1⟩;have HOW:=zh hown;have HON:=zh hone;have HB1:=zh hb1;have hs1:=hb1.size;have HR0:=zh R;have HKA:=zh KA';have HBA:=zh BA;clear hown hone hb1 R KA' BA
   gi_wp2_with (gi_at_builtin;refine wpListIn_append_own _ rfl _ _ 50 rfl A.heap.size 3 i0 (.int .i64 0) 1 8 zhS hi hz0 hz1 hz2 rfl (by decide) v1 p ys rfl (HOW.o.alloc _) ⟨W1.heap.size,0,none⟩ 1 1 [.int .i64 k] rfl rfl (cell_one_new _ _ _) (by simp[Value.oneCell']) (by unfold maxLen;omega) (by omega) (by simp;omega) ?_;intro way w2 hown2 hgrow2 hnil2;have HO2:=zh hown2;have HG2:=zh hgrow2;clear hown2 hgrow2 hnil2)
   have bel2:Below A.heap.size A w2:=(HB1.o.alloc hs1 _).grown HG2.o (by simp;omega) (fun k e=>(HOW.o.lt k e).1);obtain⟨g,gcap,rfl,hg,hgl,hway2⟩:=WayAt.of_row HO2.o (by
    intro u hu;rcases List.mem_append.1 hu with h|h
    ·exact HON.o u h
    ·simp at h;subst h;rfl)
   have HWY:=zh hway2;have BW:Below wr.heap.size wr w2.drew:=zaf (HBA.o.trans (bel2.mono (by omega)));have K2:Kp n0 n1 wr w2.drew:=Kp.of_below (by have:=HK.o.size;omega) BW;have R2:RowAt w2.drew wr.heap.size _:=HR0.o.below (zaf bel2);have O2:=HO.o.kp hy hm hdb (HK.o.trans K2);have J2:=HJB.o _ wr w2.drew HJX.o BW;have hlen:(pre ++ xs).length<N:=by
    have h1:=congrArg List.length HX.o;have h2:=congrArg List.length HUS.o;have h3:=(zg5 sub (p+1) L inD (k+1)).length_le;have h4:=HN.o;simp at h1 h2 h4 ⊢;omega
   obtain⟨x,hx⟩:∃x:Place w0,x=⟨⟨p+1,L.take k,f,inD⟩,some ⟨g,0,none⟩,gcap,.slice (some ⟨b',o',none⟩) k cap,[Value.string f.nm,.bool f.nl,.int .i64 f.k,.int .i64 f.wd,.int .i64 f.id,.int .i64 f.ix,.slice q f.kids.length cap'],by simp;omega,
    ⟨some ⟨b',o',none⟩,cap,by simp[Nat.min_eq_left (Nat.le_of_lt hlt)],by simp;omega,by unfold maxLen;omega,HC.o.take k⟩,E3.o,HWY.o.v⟩:=⟨_,rfl⟩
   have hxv:x.v=.agg #[.slice (some ⟨g,0,none⟩) (p+1) gcap,.slice (some ⟨b',o',none⟩) k cap,.string f.nm,.bool f.nl,.int .i64 f.k,.int .i64 f.wd,.int .i64 f.id,.int .i64 f.ix,.slice q f.kids.length cap',.bool inD]:=by
    rw[hx];rfl
   have hxn:x.n=⟨p+1,L.take k,f,inD⟩:=by rw[hx]
   have hyy:=(HY.o (n-1) (pre ++ xs) x w2.drew J2 hlen).mono (R':=fun e W'=>∃t:Bool,e=.returned (.bool t)/\((e=.returned (.bool true)/\J (pre ++ xs ++ [x]) W'/\Kp n0 n1 w2.drew W')\/(e=.returned (.bool false)/\Jx (pre ++ xs ++ [x]) W'))) (fun e W' h=>h.elim (fun h=>⟨true,h.1,.inl h⟩) (fun h=>⟨false,h.1,.inr h⟩));rw[hxv] at hyy;have HYY:=zh hyy;have HXN:=zh hxn;clear hx hxv hxn hyy;have y1:=O2.y;have HJ2:=zh J2;have f0:=R2 0 _ rfl;have f1:=R2 1 _ rfl;have f2:=R2 2 _ rfl;have f3:=R2 3 _ rfl;have f4:=R2 4 _ rfl;have f5:=R2 5 _ rfl;have f6:=R2 6 _ rfl;have HR2:=zh R2;have HO3:=zh O2;have HK2:=zh K2;have HHG:=zh hg;clear J2 R2 O2 K2 BW bel2 hway2 hg hlen c0 c1 c2 c3 c4 c5 c6;refine zjq (zkI (w:=w2) hmx (Nat.le_of_lt hlt) hlc (by omega) y1 f0 f1 f2 f3 f4 f5 f6 HYY.o ?_);intro t W3 hT;have hT':(t=true/\J (pre ++ xs ++ [x]) W3/\Kp n0 n1 w2.drew W3)\/(t=false/\Jx (pre ++ xs ++ [x]) W3):=by simpa using hT
   have HUP:=zh (zg5 sub (p+1) L inD (k+1));have hnode:(xs ++ [x]).map Place.n=zfi sub (p+1) L inD k ++ [⟨p+1,L.take k,f,inD⟩]:=by rw[List.map_append,HX.o];simp[HXN.o]
   have HND:=zh hnode;clear hT f0 f1 f2 f3 f4 f5 f6 y1 HYY HJ2 hnode;rcases hT' with⟨rfl,hJ3,hK3⟩|⟨rfl,hJx⟩;rotate_left
   ·have HJX3:=zh hJx;clear hJx;gi_wp2;go_ret;refine .inr ⟨rfl,xs ++ [x],?_,by rw[<-List.append_assoc];exact HJX3.o⟩;rw[HND.o];refine List.IsPrefix.trans ?_ HUP.o;rw[HUS.o];exact⟨sub (p+1+1) f.kids (inD || decide (f.k=19)),by simp⟩
   ·have HJ3:=zh hJ3;have KT:=zh (HK2.o.trans hK3);have O3:=HO3.o.kp hy hm hdb hK3;have m1:=O3.m;have d1:=O3.d;have HO4:=zh O3;clear O3;have R3:RowAt W3 wr.heap.size [Value.string f.nm,.bool f.nl,.int .i64 f.k,.int .i64 f.wd,.int .i64 f.id,.int .i64 f.ix,.slice q f.kids.length cap']:=fun j u hj=>hK3.cell (by have:=HK.o.size;show n1<=wr.heap.size;omega) (HR2.o j u hj);have f2:=R3 2 _ rfl;have f6:=R3 6 _ rfl;have hway3:WayIn n1 w2 (p+1) (Value.slice (some ⟨g,0,none⟩) (p+1) gcap):=⟨HWY.o,fun b o n c e=>by
     cases e;have:=HHG.o;have:=HK.o.size;omega⟩
    have HW3:=zh ((hway3.kp (Kp.of_below (n0:=n0) (by have:=HK.o.size;have:=HOW.o.1;have:=HKA.o.size;have:=HK2.o.size;have:w2.drew.heap.size=w2.heap.size:=rfl;omega) (zaf (Below.refl _ w2)))).kp hK3);have HBL3:Hid (Below n0 w0 W3):=zh (HB.o.trans (HK.o.trans KT.o).below);have HKD3:Hid (FdsAt w0 f.kids (.slice q f.kids.length cap')):=zh (by obtain⟨q',c',e,h',_⟩:=E3.o.shape;cases e;exact h');have hsz3:n1<=W3.heap.size:=by have:=(HK.o.trans KT.o).size;omega
    clear R3 hJ3 hK3 hway3;by_cases hp64:p<64
    ·have HN3:Hid ((pre ++ (xs ++ [x])).length+(sub (p+2) f.kids (inD || decide (f.k=19))).length<=N):=zh (by
      have h2:=congrArg List.length HUS.o;have h3:=HUP.o.length_le;have h4:=HN.o;have h5:=congrArg List.length HND.o;simp only[List.length_map,List.length_append,List.length_cons,List.length_nil] at h2 h3 h4 h5 ⊢;have e:p+1+1=p+2:=rfl;rw[e] at h2;omega)
     have hin:(inD || decide (f.k=19))=(if inD then true else f.k == 19):=by cases inD <;> rfl
     have HIN:=zh hin;clear hin;cases inD <;>
     (gi_wp2
      refine⟨trivial,hdd _,?_⟩;refine(HR.o hp64 f.kids _ _ _ (pre ++ (xs ++ [x])) W3 (n-1) HW3.o hsz3 HBL3.o HKD3.o HO4.o (by rw[<-List.append_assoc];exact HJ3.o) (by have h1:=HN3.o;rw[HIN.o] at h1;exact h1)).mono ?_;rintro e W4 (⟨rfl,⟨ys2,hys,hJ4⟩,hK4⟩|⟨rfl,ys2,hys,hJ4⟩)
      ·have HJ4:=zh hJ4;have HYS:=zh hys;have HK4:=zh (HK.o.trans (KT.o.trans hK4));clear hJ4 hys hK4;gi_wp2;go_roundw
       case rel=>
        refine⟨k+1,(xs ++ [x]) ++ ys2,by omega,by go_num,zh ?_,zh (by rw[<-List.append_assoc];exact HJ4.o),HK4⟩;rw[List.map_append,HND.o,HUS.o,HIN.o,HYS.o];simp
       case measure=>simp[intOf];omega
      ·have HJ4:=zh hJ4;have HYS:=zh hys;clear hJ4 hys;gi_wp2;go_ret;refine .inr ⟨rfl,(xs ++ [x]) ++ ys2,?_,by rw[<-List.append_assoc];exact HJ4.o⟩;rw[List.map_append,HND.o];refine List.IsPrefix.trans ?_ HUP.o;rw[HUS.o,HIN.o];obtain⟨zs,hzs⟩:=HYS.o;exact⟨zs,by simp[<-hzs]⟩)
    ·have hs0:=HZ.o (by omega) (p+1+1) f.kids (inD || decide (f.k=19));have HS0:=zh hs0;clear hs0;gi_wp2;refine⟨fun f h=>(by cases h),?_⟩;gi_wp2;go_roundw
     case rel=>
      refine⟨k+1,xs ++ [x],by omega,by go_num,zh ?_,zh (by rw[<-List.append_assoc];exact HJ3.o),zh (HK.o.trans KT.o)⟩;rw[HND.o,HUS.o,HS0.o]
     case measure=>simp[intOf];omega
  ·gi_wp2;go_ret;refine .inl ⟨rfl,⟨xs,?_,HJX.o⟩,HK.o⟩;rw[HX.o,show k=L.length by omega,zn5]
end
end Go.Fld
namespace Go.Fld
open Go Go.RowKit Go.Proofs Go.ChangeShapes Go.WideShapes Go.ChangeAt Go.Shelf
attribute [local go_sem] Oper.semAt_some
@[local go_sem] theorem run_store_func (P:Program) (w:World) (a:Addr) (m:Mode) (f:Fn) (x y:Array Value):(store a (.func f x y) m).run P w=stored P w a (.func f x y) m:=run_store P w a _ m rfl
theorem zn6 (p:Option Addr)(n cap:Nat)(w:World) :
  Calls Tryz.prog 60 #[.slice p n cap,.int .i64 65] w fun e w'=>e=.returned (.func (.func 72) #[] #[.pointer (some ⟨w.heap.size+1,0,none⟩),.pointer (some ⟨w.heap.size,0,none⟩)])/\w'=(w.alloc (.cells #[.slice p n cap] 22)).alloc (.cells #[.int .i64 65] 3):=by
 go_in
 go_wp2_with fail;go_ret;exact⟨rfl,rfl⟩
section
variable {n0 n1 l yb mb db N:Nat} {w0:World} {J Jx:List (Place w0)->World->Prop}
theorem zmI (hn0:n0<=n1)(hw0:w0.heap.size=n0)(hy:n1<=yb)(hm:n1<=mb)(hdb:n1<=db)
  (hJ:∀s A B,J s A->Below A.heap.size A B->J s B)
  (hY:∀m pre (x:Place w0) W,J pre W->pre.length<N->YieldAt Fence.wide m Tryz.prog l #[x.v] W fun e W'=>
   (e=.returned (.bool true)/\J (pre ++ [x]) W'/\Kp n0 n1 W W')\/(e=.returned (.bool false)/\Jx (pre ++ [x]) W')) :
  ∀(r p:Nat),p+r=64->zpk n0 n1 l yb mb db N J Jx p (zbR r (p+1))
 | 0,p,hp=>by
  refine zjO hn0 hw0 hy hm hdb (fun n w d v h hd=>callsIn_wide.2 (zh3 h hd)) hJ hY p (by omega) (fun _ _ _=>[]) (fun h=>by omega) (fun _ _ _ _=>rfl)
 | r+1,p,hp=>by
  refine zjO hn0 hw0 hy hm hdb (fun n w d v h hd=>callsIn_wide.2 (zh3 h hd)) hJ hY p (by omega) (zbR r) (fun _=>zmI hn0 hw0 hy hm hdb hJ hY r (p+1) (by omega)) (fun h=>by omega)
end
theorem zqo {w0 W0:World}{L:List Fd}{p:Option Addr}{c:Nat}(hL:FdsAt w0 L (.slice p L.length c)){mb lb n1 n:Nat}(hb:Below w0.heap.size w0 W0)(hlb:W0.cell? ⟨lb,0,none⟩=some (.slice p L.length c))(hmb:W0.cell? ⟨mb,0,none⟩=some (.int .i64 65))(hm:n1<=mb)(hn0:w0.heap.size<=n1)(hn1:n1<=W0.heap.size) :
  SeqStopsK Fence.wide n Tryz.prog 72 #[.pointer (some ⟨mb,0,none⟩),.pointer (some ⟨lb,0,none⟩)] (fun x:Place w0=>#[x.v]) (Kp w0.heap.size n1) (fun xs=>xs.map Place.n=zbR 64 1 L false) (fun pre=>pre.map Place.n <+: zbR 64 1 L false) (zbR 64 1 L false).length W0:=by
 intro l J Jx W hbW hJ hJx hY hJ0;have hro:Fence.wide.round=none:=rfl;have hmx:Tryz.prog.follows .mixedOrders=true:=by kernel_rfl
 have hdd:∀k:Nat,(Fence.wide.depth.isSome=true->1<=k):=fun k h=>by simp[Fence.wide] at h
 have HY:=zh hY;have HJ:=zh hJ;have HJ0:=zh hJ0;have HB:=zh (hb.trans (hbW.mono hb.size));have hl1:=zaa hbW hlb;have hm1:=zaa hbW hmb;have hs1:=hbW.size;have hlt1:=World.block_lt_of_cell? W _ hl1;have hlt2:=World.block_lt_of_cell? W _ hm1;simp only at hlt1 hlt2;have HBW:=zh hbW;have HL:=zh hL;clear hY hJ hJ0 hJx hb hlb hmb hbW hL;simp only[List.append_toArray,List.cons_append,List.nil_append];refine callsIn_of_wp Tryz.func72 rfl (trivial:Fence.wide.fn 72) ?_ hro;simp only[Tryz.ntmps72,List.size_toArray,List.length_cons,List.length_nil,Nat.reduceAdd,Nat.reduceSub,Array.replicate_succ,Array.replicate_zero,List.push_toArray,List.append_toArray,List.nil_append,List.cons_append];gi_wp2;obtain⟨W2,hW2⟩:=nm ((W.alloc (.cells #[.func (Fn.yield l) #[] #[]] 170)).alloc (.cells #[.func (Fn.func 73) #[] #[.pointer (some ⟨W.heap.size,0,none⟩),.pointer (some ⟨mb,0,none⟩),.pointer (some ⟨W.heap.size+1,0,none⟩)]] 171));have hB2:Below W.heap.size W W2:=by rw[hW2];exact((Below.refl _ W).alloc (Nat.le_refl _) _).alloc (by simp) _
 have hOwn:Own3 l W.heap.size mb (W.heap.size+1) W2:=by
  refine⟨?_,zaa hB2 hm1,?_⟩
  ·rw[hW2];go_simp
  ·rw[hW2];go_simp
 rw[<-hW2];have hs2:=hB2.size;refine⟨trivial,hdd _,?_⟩;have hJb:∀s A B,J s A->Below A.heap.size A B->J s B:=fun s A B h hb=>HJ.o s A B none h ⟨hb.os,hb.tape,hb.output,hb.size,fun k hk _=>hb.block k hk⟩ (fun r e=>by cases e);refine(zmI hn0 rfl (by omega) hm (by omega) hJb (fun m pre x W' hj hlen=>zn4 rfl m (HY.o pre x W' hj hlen)) 64 0 rfl L false (.slice p L.length c) (.slice none 0 0) [] W2 (n-1) ⟨.inl ⟨rfl,rfl⟩,fun b o n c e=>by cases e⟩ (by omega) (HB.o.trans (hB2.mono (by have:=HB.o.size;omega))) HL.o hOwn (hJb _ _ _ HJ0.o hB2) (by simp)).mono ?_;rintro e W4 (⟨rfl,⟨ys2,hys,hJ4⟩,hK4⟩|⟨rfl,ys2,hys,hJ4⟩)
 ·have HJ4:=zh hJ4;have HYS:=zh hys;clear hJ4 hys hK4;gi_wp2
  first|go_ret|go_end0
  exact⟨⟨_,rfl⟩,.inl ⟨ys2,HYS.o,by simpa using HJ4.o⟩⟩
 ·have HJ4:=zh hJ4;have HYS:=zh hys;clear hJ4 hys;gi_wp2
  first|go_ret|go_end0
  exact⟨⟨_,rfl⟩,.inr ⟨ys2,HYS.o,by simpa using HJ4.o⟩⟩
end Go.Fld
