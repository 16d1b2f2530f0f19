import Derived.Test.YthocbeghnkacnaaGreatDoorT19
import Derived.Deep.DeepCutAuto
import Derived.Laws.AppendOwnNone
import Derived.Maps.AppendAt
set_option linter.unusedVariables false
set_option linter.unusedSimpArgs false
set_option linter.unnecessarySimpa false
set_option maxRecDepth 100000
set_option maxHeartbeats 16000000
namespace Go.Fld
open Go Go.RowKit Go.Proofs Go.ChangeShapes Go.WideShapes Go.ChangeAt Go.Shelf Go.Fld.Late
structure WayJ (n:Nat)(w:World)(d:Nat)(v:Value):Prop where
 way:WayAt w d v
 blk:∀b o k c,v=.slice (some ⟨b,o,none⟩) k c->n<=b
 nil:d=0->v=.slice none 0 0
mutual
def zaN:Dt->Nat
 | .mk _ _ _ _ kids dict=>1+max (zef kids) (zef dict)
def zef:List Dt->Nat
 | []=>0
 | d :: r=>max (zaN d) (zef r)
end
theorem zfZ:∀ {l:List Dt} {e:Dt},e ∈ l->zaN e<=zef l
 | d :: r,e,h=>by
  rw[zef];rcases List.mem_cons.1 h with h|h
  ·rw[h];omega
  ·have:=zfZ h;omega
theorem zcf {d e:Dt}(h:e ∈ zac d):zaN e<zaN d:=by
 cases d with
 | mk len off nul bufs kids dict=>
  rw[zaN];unfold zac at h;by_cases hd:0<dict.length
  ·have h:e ∈ (if 0<dict.length then dict else kids):=h;rw[if_pos hd] at h;have:=zfZ h;omega
  ·have h:e ∈ (if 0<dict.length then dict else kids):=h;rw[if_neg hd] at h;have:=zfZ h;omega
mutual
def zau:Fd->Nat
 | .mk _ _ _ _ _ _ kids=>1+zcZ kids
def zcZ:List Fd->Nat
 | []=>0
 | d :: r=>max (zau d) (zcZ r)
end
theorem zd6:∀ {l:List Fd} {e:Fd},e ∈ l->zau e<=zcZ l
 | d :: r,e,h=>by
  rw[zcZ];rcases List.mem_cons.1 h with h|h
  ·rw[h];omega
  ·have:=zd6 h;omega
theorem zcH (f:Fd):zau f=1+zcZ f.kids:=by cases f;rw[zau];rfl
theorem zmg {l:List Fd}{n:Nat}(h:∀e ∈ l,zau e<=n):zcZ l<=n:=by
 induction l with
 | nil=>rw[zcZ];omega
 | cons d r ih=>
  rw[zcZ];have h1:=h d (by simp);have h2:=ih fun e he=>h e (by simp[he]);omega
theorem zfx {sub:Nat->List Fd->Bool->List Node}{d:Nat}{l:List Fd}{inD:Bool}:∀ {r:List Fd} {i:Nat} {f:Fd},f ∈ r->(∃n ∈ zaY sub d l inD i r,n.d=d)/\∀n ∈ sub (d+1) f.kids (inD || decide (f.k=19)),n ∈ zaY sub d l inD i r
 | g :: r,i,f,h=>by
  rw[zaY];refine⟨⟨⟨d,l.take i,g,inD⟩,by simp,rfl⟩,fun n hn=>?_⟩;rcases List.mem_cons.1 h with e|e
  ·subst e;simp[hn]
  ·have:=(zfx (sub:=sub) (d:=d) (l:=l) (inD:=inD) (i:=i+1) e).2 n hn;simp[this]
theorem zhn {D:Nat}:∀(r d:Nat) (l:List Fd) (inD:Bool),(∀n ∈ zbR r d l inD,n.d<=D)->D<d+r->∀f ∈ l,d+zau f<=D+1
 | 0,d,l,inD,h,hr,f,hf=>by
  rw[zbR] at h;obtain⟨⟨n,h1,h2⟩,-⟩:=zfx (sub:=fun _ _ _=>[]) (d:=d) (l:=l) (inD:=inD) (i:=0) hf;have:=h n h1;omega
 | r+1,d,l,inD,h,hr,f,hf=>by
  rw[zbR] at h;obtain⟨⟨n,h1,h2⟩,h3⟩:=zfx (sub:=zbR r) (d:=d) (l:=l) (inD:=inD) (i:=0) hf;have h4:=h n h1;have h5:=zhn r (d+1) f.kids _ (fun n hn=>h n (h3 n hn)) (by omega);have h6:zcZ f.kids<=D-d:=zmg fun e he=>by have:=h5 e he;omega
  rw[zcH];omega
theorem zic:∀ {l:List Node} {a:Nat} {ids:List Int},zbm a ids l=0->∀n ∈ l,n.d<=64
 | n :: r,a,ids,h,m,hm=>by
  rw[zbm] at h;by_cases h0:za7 n a ids=0
  ·rw[if_pos h0] at h;rcases List.mem_cons.1 hm with e|e
   ·subst e;unfold za7 at h0;split at h0
    ·omega
    ·omega
   ·exact zic h m e
  ·rw[if_neg h0] at h;exact absurd h h0
theorem zmh {f:Fd}(h:zbh f=0):zau f<=64:=by
 have:=zhn (D:=64) 64 1 [f] false (zic h) (by omega) f (by simp);omega
def zdC (w:World)(dep:Nat)(c:Int × List Int)(e:Ending)(w':World):Prop:=∃(d:Nat) (q:Option Addr) (cap:Nat) (pv:Value) (a:Int),e=.returned (.tuple #[.agg #[.int .i64 c.1,pv,.int .i64 a],.slice q c.2.length cap])/\(WayJ w.heap.size w' d pv/\d<=dep)/\M.At (fun b=>w.heap.size<=b) w' (zdQ c.2) (.slice q c.2.length cap)/\Below w.heap.size w w'
theorem zj2 {fn:Func}{i j:Nat}(hfn:fn.results=#[.cell i 69,.tmp j]){W:World}{tmps:Array Value}{rb:Nat}{e a:Int}{v u:Value}(ht:tmps.getD i undef=.pointer (some ⟨rb,0,none⟩))(hu:tmps.getD j undef=u)(hw:RowAt W rb [.int .i64 e,v,.int .i64 a]) :
  (results fn tmps).run Tryz.prog W=.ok (.tuple #[.agg #[.int .i64 e,v,.int .i64 a],u]) W:=by
 have c0:=hw 0 _ rfl;have c1:=hw 1 _ rfl;have c2:=hw 2 _ rfl;rw[Array.getD_eq_getD_getElem?] at ht hu;simp[results,hfn,go_sem,ht,hu,c0,c1,c2]
theorem zni {fn:Func}{i j:Nat}(hfn:fn.results=#[.cell i 69,.tmp j]){w W:World}{rb:Nat}{er a:Int}{l:List Int}{v:Value}{d dep:Nat}{q:Option Addr}{cap:Nat}(hbx:BoxN W rb 69 [.int .i64 er,v,.int .i64 a])(hv:WayJ w.heap.size W d v/\d<=dep)(hl:M.At (fun b=>w.heap.size<=b) W (zdQ l) (.slice q l.length cap))(hB:Below w.heap.size w W)
  {tmps:Array Value} (ht:tmps.getD i undef=.pointer (some ⟨rb,0,none⟩)) (hu:tmps.getD j undef=.slice q l.length cap):bodyPost Tryz.prog fn (zdC w dep (er,l)) Exit.ret { tmps:=tmps,defers:=[] } W:=
 bodyPost_ret (zj2 hfn ht hu hbx.row) rfl ⟨d,q,cap,v,a,rfl,hv,hl,hB⟩
theorem zid {fn:Func}{i j:Nat}(hfn:fn.results=#[.cell i 69,.tmp j]){w W:World}{rb n:Nat}{er a:Int}{l:List Int}{v:Value}{d dep:Nat}{q:Option Addr}{cap:Nat}(hn:n=l.length)(hbx:BoxN W rb 69 [.int .i64 er,v,.int .i64 a])(hv:WayJ w.heap.size W d v/\d<=dep)(hl:M.At (fun b=>w.heap.size<=b) W (zdQ l) (.slice q n cap))(hB:Below w.heap.size w W)
  {tmps:Array Value} (ht:tmps.getD i undef=.pointer (some ⟨rb,0,none⟩)) (hu:tmps.getD j undef=.slice q n cap):bodyPost Tryz.prog fn (zdC w dep (er,l)) Exit.ret { tmps:=tmps,defers:=[] } W:=by
 subst hn;exact zni hfn hbx hv hl hB ht hu
theorem zc0 {fn:Func}{i j:Nat}(hfn:fn.results=#[.cell i 69,.tmp j]){w W:World}{rb:Nat}{er a:Int}{v:Value}{d dep:Nat}(hbx:BoxN W rb 69 [.int .i64 er,v,.int .i64 a])(hv:WayJ w.heap.size W d v/\d<=dep)(hB:Below w.heap.size w W)
  {tmps:Array Value} (ht:tmps.getD i undef=.pointer (some ⟨rb,0,none⟩)) (hu:tmps.getD j undef=.slice none 0 0):bodyPost Tryz.prog fn (zdC w dep (er,[])) Exit.ret { tmps:=tmps,defers:=[] } W:=
 bodyPost_ret (zj2 hfn ht hu hbx.row) rfl ⟨d,none,0,v,a,rfl,hv,M.At.nil _ _ 1,hB⟩
theorem za6 {w W:World}(h:Below w.heap.size w W)(o:Obj):Below w.heap.size w (W.alloc o):=h.alloc h.size o
theorem zeN {f:Fd}{d:Dt}{n o:Nat}(F:Fit f d n o){k:Nat}(h:k<(zac d).length):(f.k=20->k=0\/0<f.kids.length)/\(f.k≠20->k<f.kids.length):=by
 refine⟨fun h20=>.inr (by have:=zaW (zaE F.may).1 (.inr (.inr (.inr h20)));omega),fun h20=>?_⟩;by_cases h19:f.k=19
 ·have h1:=zaW (zaE F.may).1 (.inr (.inr (.inl h19)));rw[F.partsDict h19] at h;have:=F.nd;rw[if_pos h19] at this;omega
 ·rw[F.parts h19,F.nk,zde F.may h19 h20] at h;exact h
theorem zf0 {f:Fd}{d:Dt}{n o:Nat}(F:Fit f d n o){k:Nat}(h:k<(zac d).length):zau (zat f k)<zau f:=by
 obtain⟨h1,h2⟩:=zeN F h;have hk:0<f.kids.length:=by
  by_cases h20:f.k=20
  ·have:=zaW (zaE F.may).1 (.inr (.inr (.inr h20)));omega
  ·have:=h2 h20;omega
 have hin:∀(j:Nat) (hj:j<f.kids.length),zau (f.kids[j]?.getD endsF)<zau f:=fun j hj=>by
  rw[List.getElem?_eq_getElem hj,Option.getD_some,zcH f];have:=zd6 (List.getElem_mem hj);omega
 unfold zat;by_cases h20:f.k=20
 ·rw[if_pos h20];by_cases hk0:k=0
  ·rw[if_pos hk0];have h3:=zd6 (List.getElem_mem hk);have h4:=zcH f.kids[0];have h5:zau endsF=1:=by unfold endsF;rw[zau,zcZ]
   rw[zcH f,h5];omega
  ·rw[if_neg hk0];exact hin 0 hk
 ·rw[if_neg h20];exact hin k (h2 h20)
theorem zeO {n:Nat}{w:World}{dep:Nat}:WayJ n w 0 (.slice none 0 0)/\0<=dep:=⟨⟨.inl ⟨rfl,rfl⟩,fun _ _ _ _ e=>by simp at e,fun _=>rfl⟩,Nat.zero_le _⟩
theorem zix {U V:World}{d:Nat}{v:Value}(h:WayAt U d v)(hk:∀b o n c,v=.slice (some ⟨b,o,none⟩) n c->b<U.heap.size->V.heap[b]?=U.heap[b]?):WayAt V d v:=by
 rcases h with h0|⟨b,o,cap,xs,hv,hc,hm,hx,hcell,h1⟩
 ·exact .inl h0
 ·refine .inr ⟨b,o,cap,xs,hv,hc,hm,hx,fun j u hj=>?_,h1⟩;have h2:=hcell j u hj;have hlt:b<U.heap.size:=by
   unfold World.cell? at h2;cases hk:U.heap[b]? with
   | none=>rw[hk] at h2;cases h2
   | some o=>exact(Array.getElem?_eq_some_iff.1 hk).1
  have h3:=hk b o _ _ hv hlt;unfold World.cell? at h2 ⊢;rw[h3];exact h2
theorem WayJ.lt {n:Nat}{U:World}{d:Nat}{v:Value}(h:WayJ n U d v):∀b o k c,v=.slice (some ⟨b,o,none⟩) k c->b<U.heap.size:=fun b o k c e=>by
 have hd:0<d:=by
  rcases Nat.eq_zero_or_pos d with h0|h0
  ·rw[h.nil h0] at e;cases e
  ·exact h0
 rcases h.way with⟨h0,_⟩|⟨b',o',cap,xs,hv,hc,hm,hxl,hcell,h1⟩
 ·omega
 ·have key:b'<U.heap.size:=by
   have h2:=hcell 0 (xs[0]'(by omega)) (List.getElem?_eq_getElem _);unfold World.cell? at h2;cases hk:U.heap[b']? with
   | none=>rw[hk] at h2;cases h2
   | some o=>exact(Array.getElem?_eq_some_iff.1 hk).1
  rw[hv] at e;cases e;exact key
theorem zpD {n0 n1 xe:Nat}{U V:World}{d:Nat}{v:Value}(h:WayJ n1 U d v)(hn:n0<=n1)(hk:∀b,b<U.heap.size->V.heap[b]?=U.heap[b]?)(hx:xe=U.heap.size):WayJ n0 V d v/\∀b o n c,v=.slice (some ⟨b,o,none⟩) n c->b≠xe:=
 ⟨⟨zix h.way (fun b o n c e hb=>hk b hb),fun b o n c e=>Nat.le_trans hn (h.blk b o n c e),h.nil⟩,fun b o n c e=>by have:=h.lt b o n c e;omega⟩
theorem zjA {n0 xe:Nat}{U:World}{d:Nat}{v:Value}(h:WayJ n0 U d v/\∀b o n c,v=.slice (some ⟨b,o,none⟩) n c->b≠xe)(x y z:Value):WayJ n0 (((U.setCell ⟨xe,0,none⟩ x).setCell ⟨xe,1,none⟩ y).setCell ⟨xe,2,none⟩ z) d v/\∀b o n c,v=.slice (some ⟨b,o,none⟩) n c->b≠xe:=
 ⟨⟨zix h.1.way (fun b o n c e _=>(Below.heap_setCell _ _ _ b (h.2 b o n c e)).trans ((Below.heap_setCell _ _ _ b (h.2 b o n c e)).trans (Below.heap_setCell _ _ _ b (h.2 b o n c e)))),h.1.blk,h.1.nil⟩,h.2⟩
theorem zqB (W:World)(x:Value):(W.alloc (.cells #[x] 3)).ownsRow W.heap.size 3 1 (.slice (some ⟨W.heap.size,0,none⟩) 1 1) 1 [x]:=⟨rfl,.inr ⟨_,1,#[x],rfl,Nat.le_refl _,World.alloc_heap_new W _,Nat.le_refl _,by decide,rfl,rfl⟩⟩
theorem zqC {U:World}{n m:Nat}(hs:U.heap.size=m)(hn:n<=m)(x:Int):WayJ n (U.alloc (.cells #[.int .i64 x] 3)) 1 (.slice (some ⟨m,0,none⟩) 1 1):=
 ⟨.inr ⟨m,0,1,[.int .i64 x],rfl,Nat.le_refl _,by decide,rfl,fun j u hj=>by
  rw[Nat.zero_add];exact(BoxN.new' hs 3 [.int .i64 x]).row j u hj,fun u hu=>by
   simp at hu;subst hu;rfl⟩,fun b o k c e=>by cases e;exact hn,fun h=>by cases h⟩
theorem zq3:Tryz.prog.underlying 155=some (.slice 50):=by kernel_rfl
theorem zlc:∃i z,Tryz.prog.info? 50=some i/\i.zero=some z/\i.size=1/\i.bytes=24/\z.cells.size=1:=⟨_,_,rfl,rfl,rfl,rfl,rfl⟩
def PartR (n0 xb:Nat)(F E:List Value)(U:World):Prop:=RowAt U n0 F/\RowAt U xb E
def WaAt (w W4 wa:World)(n0 xb:Nat)(F E:List Value)(U:World):Prop:=Below w.heap.size w U/\Below W4.heap.size W4 U/\Below wa.heap.size wa U/\PartR n0 xb F E U
theorem PartR.below {n0 xb:Nat}{F E:List Value}{U V:World}(h:PartR n0 xb F E U)(hb:Below U.heap.size U V):PartR n0 xb F E V:=⟨fun j v hj=>zaa hb (h.1 j v hj),fun j v hj=>zaa hb (h.2 j v hj)⟩
theorem WaAt.next {w W4 wa:World}{n0 xb:Nat}{F E:List Value}{U V:World}(h:WaAt w W4 wa n0 xb F E U)(hb:Below U.heap.size U V):WaAt w W4 wa n0 xb F E V:=
 ⟨h.1.trans (hb.mono h.1.size),h.2.1.trans (hb.mono h.2.1.size),h.2.2.1.trans (hb.mono h.2.2.1.size),h.2.2.2.below hb⟩
theorem zbi {U:World}{n xe:Nat}{l:List Value}(h:RowAt U n l)(hne:n≠xe)(i:Nat)(v:Value):RowAt (U.setCell ⟨xe,i,none⟩ v) n l:=fun j u hj=>by
 have:=h j u hj;unfold World.cell? at this ⊢;rw[Below.heap_setCell _ _ _ n hne];exact this
theorem WaAt.put {w W4 wa:World}{n0 xb:Nat}{F E:List Value}{U:World}(h:WaAt w W4 wa n0 xb F E U){xe:Nat}(hx:wa.heap.size<=xe)(hb:xb<wa.heap.size)(hn:n0<wa.heap.size)(a b c:Value):PartR n0 xb F E (((U.setCell ⟨xe,0,none⟩ a).setCell ⟨xe,1,none⟩ b).setCell ⟨xe,2,none⟩ c):=
 ⟨zbi (zbi (zbi h.2.2.2.1 (by omega) _ _) (by omega) _ _) (by omega) _ _,zbi (zbi (zbi h.2.2.2.2 (by omega) _ _) (by omega) _ _) (by omega) _ _⟩
theorem ziy {B xe:Nat}{U:World}{m:M}{v:Value}(h:M.At (fun b=>B<=b/\b≠xe) U m v)(a b c:Value):M.At (fun b=>B<=b/\b≠xe) (((U.setCell ⟨xe,0,none⟩ a).setCell ⟨xe,1,none⟩ b).setCell ⟨xe,2,none⟩ c) m v:=
 M.At.keep (fun k hs _=>⟨(Below.heap_setCell _ _ _ k hs.2).trans ((Below.heap_setCell _ _ _ k hs.2).trans (Below.heap_setCell _ _ _ k hs.2)),hs⟩) h
theorem zi0 {f:Fd}{d:Dt}{n o:Nat}(F:Fit f d n o)(h20:f.k=20)(hall:∀i (h:i<(zac d).length),(zap (zat f i) (zac d)[i]).1=0) :
  ∃(hk:1<d.kids.length) (n' o':Nat),Fit endsF d.kids[0] n' o'/\∃hb:1<d.kids[0].bufs.length,4*(o'+n')<=d.kids[0].bufs[1].size/\zdR d=zbO d.kids[0] d.kids[1] ((o+n:Nat):Int):=by
 have h1:=zaW (zaE F.may).1 (.inr (.inr (.inr h20)));have hkl:d.kids.length=2:=by
  rw[F.nk];unfold zbY;rw[if_neg (by rw[F.may];simp[h20]),if_pos h20,h1]
 have hp:=F.parts (show f.k≠19 by omega);have h0:=hall 0 (by rw[hp];omega);simp only[hp] at h0;have hpf:zat f 0=endsF:=by unfold zat;rw[if_pos h20,if_pos rfl]
 rw[hpf] at h0;obtain⟨n',o',G⟩:=Fit.of (zhm h0).1;have hb:=G.nb;have hb2:zcY endsF.k.toNat=2:=by decide
 rw[hb2] at hb;have hs:=G.small 1 (by omega);have hw:zbK endsF=4:=by unfold zbK;rw[if_neg (by rw[G.may];decide)];decide
 have hnd:zaB endsF 1 (n'+o') d.kids[0].bufs[1].size=((n'+o':Nat):Int)*4:=by
  unfold zaB;rw[if_neg (by decide),if_neg (by omega),if_neg (by decide),if_neg (by decide),hw]
 rw[hnd] at hs;refine⟨by omega,n',o',G,by omega,by omega,?_⟩;unfold zdR;rw[List.getElem?_eq_getElem (show 0<d.kids.length by omega),List.getElem?_eq_getElem (show 1<d.kids.length by omega),F.len,F.off];rfl
theorem zfM {f:Fd}{d:Dt}{n o:Nat}(F:Fit f d n o):(zac d).length<=33:=by
 have hf:=(zaE F.may).1;unfold zaU at hf;simp only[Bool.and_eq_true,decide_eq_true_eq] at hf;have h2:=hf.2.2.2.2;have hm:zbH f.k<=32:=by unfold zbH;(repeat' split) <;> omega
 by_cases h19:f.k=19
 ·rw[F.partsDict h19];have:=F.nd;rw[if_pos h19] at this;omega
 ·rw[F.parts h19,F.nk];by_cases h20:f.k=20
  ·unfold zbY;rw[if_neg (by rw[F.may];simp[h19]),if_pos h20];omega
  ·rw[zde F.may h19 h20];omega
def zrr (wa wx:World)(cw:Int × List Int)(xe:Nat)(pv:Value)(dv:Nat)(ae:Int)(q:Option Addr)(c:Nat):Prop:=BoxN wx xe 69 [.int .i64 cw.1,pv,.int .i64 ae]/\(WayJ wa.heap.size wx dv pv/\∀b o n c,pv=.slice (some ⟨b,o,none⟩) n c->b≠xe)/\M.At (fun b=>wa.heap.size<=b/\b≠xe) wx (zdQ cw.2) (.slice q cw.2.length c)/\Below wa.heap.size wa wx/\wa.heap.size<=xe
theorem znj {w:World}{f:Fd}{d:Dt}{fs ds:List Value}(hf:FdAt w f fs)(hd:DAt (fun _=>True) w d ds)(hS:SaysAt w)(hW':SaysW w)(hT:Lib.Utf8Tabs 1 2 w)(hok:DtOk d){dep:Nat}(hdm:zau f<=dep)(hdp:dep<=1000000000000)
  (ih:∀e ∈ zac d,∀(w:World) (f':Fd) (fs ds:List Value),zau f'<=dep-1->FdAt w f' fs->DAt (fun _=>True) w e ds->SaysAt w->SaysW w->Lib.Utf8Tabs 1 2 w->Calls Tryz.prog 50 #[.agg fs.toArray,.agg ds.toArray] w (zdC w (dep-1) (zap f' e))) :
  Calls Tryz.prog 50 #[.agg fs.toArray,.agg ds.toArray] w (zdC w dep (zap f d)):=by
 have IH:=zh ih;have HDM:=zh (And.intro hdm hdp);clear ih hdm hdp;obtain⟨fp,fc,rfl,-⟩:=hf.shape;obtain⟨bp,bc,kp,kc,dp,dc,rfl,hbu,hki,hdi⟩:=hd.shape;obtain⟨-,hb1,hb2⟩:=zam hbu;obtain⟨-,hk1,hk2⟩:=zam hki;obtain⟨-,hd1,hd2⟩:=zam hdi;simp only[List.length_map] at hb1 hk1 hd1;unfold maxLen at hb2 hk2 hd2;have HF:=zh hf;have HD:=zh hd;have HT:=zh hT;have HS:=zh hS;have HSW:=zh hW';have HOK:=zh hok;clear hf hd hbu hki hdi hT hS hW' hok;obtain⟨W1,hW,x0,x1,x2,hBW⟩:=zbG w 26 (f7 f fp fc) 46 (d6 d bp bc kp kc dp dc) 69 [.int .i64 0,.slice none 0 0,.int .i64 0];have X0:=zh x0;have X1:=zh x1;have X2:=zh x2;have HB1:=zh hBW;have HW:=zh hW;clear x0 x1 x2 hBW hW
 go_in
 go_wp2_with fail;rw[<-HW.o];clear HW;refine(zma (HF.o.below HB1.o) (HD.o.below HB1.o) (HS.o.below HB1.o) (HSW.o.below HB1.o)).mono ?_;rintro e V2 ⟨d2,pv2,at2,rfl,hwv,hb⟩;have HWV2:Hid True:=zh trivial;obtain⟨_,_,rfl,rfl,rfl,rfl⟩:=hwv;have HV2:=zh (HB1.o.trans (hb.mono HB1.o.size));have X0:=zh (X0.o.below hb X0.o.lt);have X1:=zh (X1.o.below hb X1.o.lt);have X2:=zh (X2.o.below hb X2.o.lt);clear hb;obtain⟨er,her0⟩:=nm (zaP f d);rw[<-her0];have HER:=zh her0;clear her0;have hl1:=X0.o.lt;have hl2:=X1.o.lt;by_cases her:er≠0
 ·as_aux_lemma=>
   have hne:(er != 0)=true:=by simpa using her
   have HC:Hid (zap f d=(er,[])):=zh (by rw[zcS,<-HER.o,if_pos her]);clear her;obtain⟨q0,q1,q2⟩:=Fld.rr3 X2.o.row;obtain⟨z0,z1,z2⟩:=ff3 X2.o;have hl3:=X2.o.lt;go_wp2_with fail;rw[HC.o];exact zc0 (i:=4) (j:=5) rfl ((zak rfl X2.o _ _ _).alloc _) zeO (za6 (zae HV2.o (by omega) _ _ _) _) rfl rfl
 ·have her':er=0:=by omega
  subst her';clear her;have hne:((0:Int) != 0)=false:=rfl;obtain⟨p0,p1,p2,p3,p4,p5,p6⟩:=Fld.rr7 X0.o.row;obtain⟨rr0,rr1,rr2,rr3,rr4,rr5⟩:=Fld.rr6 X1.o.row;go_wp2_with fail;obtain⟨W2,hW⟩:∃W,W=V2.alloc (.cells #[.int .i64 0,.slice none 0 0,.int .i64 at2] 69):=⟨_,rfl⟩;have HB2:=zh (show Below w.heap.size w W2 by rw[hW];exact za6 HV2.o _);have X0:=zh (show BoxN W2 w.heap.size 26 (f7 f fp fc) by rw[hW];exact X0.o.alloc _);have X1:=zh (show BoxN W2 (w.heap.size+1) 46 (d6 d bp bc kp kc dp dc) by rw[hW];exact X1.o.alloc _);have X2:=zh (show BoxN W2 (w.heap.size+1+1) 69 [.int .i64 0,.slice none 0 0,.int .i64 0] by rw[hW];exact X2.o.alloc _);rw[<-hW];clear hW HV2 HWV2 hne p0 p1 p2 p3 p4 p5 p6 rr0 rr1 rr2 rr3 rr4 rr5 hl1 hl2;obtain⟨n,o,FT⟩:=Fit.of HER.o.symm;have HFT:=zh FT;clear FT;refine(znf (HF.o.below HB2.o) (HD.o.below HB2.o) HFT.o (Utf8Tabs_below HT.o HB2.o) (fun e he=>(HOK.o.dict e he).len)).mono ?_;rintro e V3 ⟨d3,pv3,at3,rfl,hwv,hb⟩;have HWV3:Hid True:=zh trivial;obtain⟨_,_,rfl,rfl,rfl,rfl⟩:=hwv;have HV3:=zh (HB2.o.trans (hb.mono HB2.o.size));have X0:=zh (X0.o.below hb X0.o.lt);have X1:=zh (X1.o.below hb X1.o.lt);have X2:=zh (X2.o.below hb X2.o.lt);clear hb;obtain⟨er,her0⟩:=nm (zaH f d);rw[<-her0];have HER3:=zh her0;clear her0;have hl1:=X0.o.lt;have hl2:=X1.o.lt;by_cases her:er≠0
  ·as_aux_lemma=>
    have hne:(er != 0)=true:=by simpa using her
    have HC:Hid (zap f d=(er,[])):=zh (by rw[zcS,<-HER.o,if_neg (by simp),<-HER3.o,if_pos her]);clear her;obtain⟨q0,q1,q2⟩:=Fld.rr3 X2.o.row;obtain⟨z0,z1,z2⟩:=ff3 X2.o;have hl3:=X2.o.lt;go_wp2_with fail;rw[HC.o];exact zc0 (i:=4) (j:=5) rfl ((zak rfl X2.o _ _ _).alloc _) zeO (za6 (zae HV3.o (by omega) _ _ _) _) rfl rfl
  ·have her':er=0:=by omega
   subst her';clear her;have hne:((0:Int) != 0)=false:=rfl;obtain⟨p0,p1,p2,p3,p4,p5,p6⟩:=Fld.rr7 X0.o.row;obtain⟨rr0,rr1,rr2,rr3,rr4,rr5⟩:=Fld.rr6 X1.o.row;go_wp2_with fail;obtain⟨W3,hW⟩:∃W,W=V3.alloc (.cells #[.int .i64 0,.slice none 0 0,.int .i64 at3] 69):=⟨_,rfl⟩;have HB3:=zh (show Below w.heap.size w W3 by rw[hW];exact za6 HV3.o _);have X0:=zh (show BoxN W3 w.heap.size 26 (f7 f fp fc) by rw[hW];exact X0.o.alloc _);have X1:=zh (show BoxN W3 (w.heap.size+1) 46 (d6 d bp bc kp kc dp dc) by rw[hW];exact X1.o.alloc _);have X2:=zh (show BoxN W3 (w.heap.size+1+1) 69 [.int .i64 0,.slice none 0 0,.int .i64 0] by rw[hW];exact X2.o.alloc _);rw[<-hW];clear hW HV3 HWV3 hne p0 p1 p2 p3 p4 p5 p6 rr0 rr1 rr2 rr3 rr4 rr5 hl1 hl2;refine(zl7 (HD.o.below HB3.o)).mono ?_;rintro e W4 ⟨pp,pc,rfl,hpl,hb⟩;have HB4:=zh (HB3.o.trans (hb.mono HB3.o.size));have X0:=zh (X0.o.below hb X0.o.lt);have X1:=zh (X1.o.below hb X1.o.lt);have X2:=zh (X2.o.below hb X2.o.lt);obtain⟨-,hp1,hp2⟩:=zam hpl;simp only[List.length_map] at hp1;unfold maxLen at hp2;have HPL:=zh hpl;clear hb hpl;have HGR0:Hid (∃css,M.Grow 50 1 W4 W4.heap.size (.slice none 0 0) (((za4 f 0 (zac d)).take 0).map fun l=>[zdQ l]) css):=zh ⟨[],M.Grow.nil _ _ _ _⟩;have HOK0:Hid (zjz f (zac d) 0):=zh (fun i _ hi=>absurd hi (Nat.not_lt_zero i));go_wp2_with fail
   go_loopw [35,8] (fun i t8 wx=>∃(k:Nat) (tp:Option Addr) (tc:Nat),k<=(zac d).length/\i=.int .i64 k/\t8=.slice tp k tc/\Hid (zjz f (zac d) k)/\Hid (Below W4.heap.size W4 wx)/\Hid (∃css,M.Grow 50 1 wx W4.heap.size t8 (((za4 f 0 (zac d)).take k).map fun l=>[zdQ l]) css)) (fun i _ _=>(zac d).length-(intOf i).toNat)
   case atStart=>exact⟨0,none,0,Nat.zero_le _,rfl,rfl,HOK0,zh (Below.refl _ _),HGR0⟩
   case round=>
    obtain⟨k,tp,tc,hk,rfl,rfl,HOKP,HBR,HGR⟩:=hrel;have Y0:=zh (X0.o.below HBR.o X0.o.lt);have Y1:=zh (X1.o.below HBR.o X1.o.lt);have Y2:=zh (X2.o.below HBR.o X2.o.lt);have HBw:=zh (HB4.o.trans (HBR.o.mono HB4.o.size));by_cases hlt:k<(zac d).length
    ·obtain⟨e0,he0⟩:=nm ((zac d)[k]);obtain⟨kb,ko,abp,abc,akp,akc,adp,adc,ekp,-,k0,k1,k2,k3,k4,k5,hda⟩:=zci HPL.o k hlt;rw[<-he0] at k0 k1 k2 k3 k4 k5 hda;subst ekp;have kk0:=zaa HBR.o k0;have kk1:=zaa HBR.o k1;have kk2:=zaa HBR.o k2;have kk3:=zaa HBR.o k3;have kk4:=zaa HBR.o k4;have kk5:=zaa HBR.o k5;have HE0:=zh he0;have HDA:=zh hda;clear k0 k1 k2 k3 k4 k5 hda he0;go_wp2_with fail;have HK1:Hid ((f.k=20->k=0\/0<f.kids.length)/\(f.k≠20->k<f.kids.length)):=zh (zeN HFT.o hlt);obtain⟨wa,hwa⟩:=nm (wr.alloc (.cells #[.int .i64 e0.len,.int .i64 e0.off,.int .i64 e0.nul,.slice abp e0.bufs.length abc,.slice akp e0.kids.length akc,.slice adp e0.dict.length adc] 46));have BE:=zh (show BoxN wa wr.heap.size 46 (d6 e0 abp abc akp akc adp adc) by rw[hwa];exact BoxN.new wr 46 (d6 e0 abp abc akp akc adp adc));have HBA:=zh (show Below wr.heap.size wr wa by rw[hwa];exact za6 (Below.refl _ wr) _);have HWA:=zh (show wr.heap.size<wa.heap.size by rw[hwa,World.size_alloc];exact Nat.lt_succ_self _);obtain⟨xb,hxb⟩:=nm (wr.heap.size);rw[<-hwa];rw[<-hxb] at BE ⊢;have HXB:=zh hxb;clear hwa hxb kk0 kk1 kk2 kk3 kk4 kk5;have Z0:=zh (Y0.o.below HBA.o Y0.o.lt);have Z1:=zh (Y1.o.below HBA.o Y1.o.lt);have Z2:=zh (Y2.o.below HBA.o Y2.o.lt);obtain⟨cw,hcw⟩:=nm (zap (zat f k) e0);have HCW:=zh hcw;clear hcw
     go_cut [11,12] from 40 to 47 (fun t11 t12 wx=>∃(xe dv:Nat) (pv:Value) (ae:Int) (q:Option Addr) (c:Nat),t11=.pointer (some ⟨xe,0,none⟩)/\t12=.slice q cw.2.length c/\Hid (zrr wa wx cw xe pv dv ae q c/\dv<=dep-1))
     case first=>
      have HMEM:Hid (e0 ∈ zac d):=zh (by rw[HE0.o];exact List.getElem_mem hlt);have HU0:=zh (show WaAt w W4 wa w.heap.size xb (f7 f fp fc) (d6 e0 abp abc akp akc adp adc) wa.drew from⟨(HBw.o.trans (HBA.o.mono HBw.o.size)).drew,(HBR.o.trans (HBA.o.mono HBR.o.size)).drew,(Below.refl _ _).drew,Z0.o.row,BE.o.row⟩);have HN0:=zh (show w.heap.size<wa.heap.size by have:=Z0.o.lt;exact this);have HXB:=zh (show xb<wa.heap.size from BE.o.lt);refine Late.region (PartR w.heap.size xb (f7 f fp fc) (d6 e0 abp abc akp akc adp adc)) (fun _=>false) (by kernel_rfl) ?_;refine Late.ta (i:=0) (v:=(.agg #[.string f.nm,.bool f.nl,.int .i64 f.k,.int .i64 f.wd,.int .i64 f.id,.int .i64 f.ix,.slice fp f.kids.length fc])) ?_ HU0.o.2.2.2 ?_
      ·intro w' hS;obtain⟨hf,-⟩:=hS;have p0:=hf 0 _ rfl;have p1:=hf 1 _ rfl;have p2:=hf 2 _ rfl;have p3:=hf 3 _ rfl;have p4:=hf 4 _ rfl;have p5:=hf 5 _ rfl;have p6:=hf 6 _ rfl;go_simp
      refine Late.ta (i:=1) (v:=(.int .i64 k)) ?_ HU0.o.2.2.2 ?_
      ·intro w' hS;go_simp
      refine Late.ta (i:=3) (v:=(.agg #[.int .i64 e0.len,.int .i64 e0.off,.int .i64 e0.nul,.slice abp e0.bufs.length abc,.slice akp e0.kids.length akc,.slice adp e0.dict.length adc])) ?_ HU0.o.2.2.2 ?_
      ·intro w' hS;obtain⟨-,he⟩:=hS;have r0:=he 0 _ rfl;have r1:=he 1 _ rfl;have r2:=he 2 _ rfl;have r3:=he 3 _ rfl;have r4:=he 4 _ rfl;have r5:=he 5 _ rfl;go_simp
      refine Late.two (i:=2) (k:=8) (by kernel_rfl) rfl rfl (fun K hK=>?_) (fun K hK=>?_)
      ·as_aux_lemma=>
        go_simp;refine(zfI (HF.o.below HU0.o.1) k HK1.o).mono ?_;rintro e U2 ⟨gp,gc,rfl,hgd,hb⟩;have HU2:=zh (HU0.o.next hb);have HGD:=zh hgd;clear hgd hb;refine hK _ _ (fun _=>HU2.o.2.2.2) ?_;clear hK K;refine Late.two (i:=4) (k:=8) (by kernel_rfl) rfl rfl (fun K hK=>?_) (fun K hK=>?_)
        ·as_aux_lemma=>
          go_simp;refine(IH.o e0 HMEM.o _ (zat f k) _ _ (by have h1:=zf0 HFT.o hlt;have h2:=HDM.o.1;omega) (HGD.o) (HDA.o.below HU2.o.2.1) (HS.o.below HU2.o.1) (HSW.o.below HU2.o.1) (Utf8Tabs_below HT.o HU2.o.1)).mono ?_;rintro e U4 ⟨dv,q,c,pv,ae,rfl,hwv,hl,hb⟩;rw[<-HCW.o] at hl ⊢;have HU4:=zh (HU2.o.next hb);have HUL:=zh hl;have HDV:=zh hwv.2;obtain⟨pq,pc',rfl,-⟩:=hwv.1.way.v;have HWV0:=zh hwv.1;clear hwv hl hb HGD;refine hK _ _ (fun _=>HU4.o.2.2.2) ?_;clear hK K;refine Late.ta (i:=5) (v:=(.tuple #[.agg #[.int .i64 cw.1,.slice pq dv pc',.int .i64 ae],.slice q cw.2.length c])) ?_ HU4.o.2.2.2 ?_
          ·intro w' hS;go_simp
          refine Late.ta (i:=6) (v:=(.agg #[.int .i64 cw.1,.slice pq dv pc',.int .i64 ae])) ?_ HU4.o.2.2.2 ?_
          ·intro w' hS;go_simp
          refine Late.ta (i:=7) (v:=(.slice q cw.2.length c)) ?_ HU4.o.2.2.2 ?_
          ·intro w' hS;go_simp
          refine Late.on (i:=8) fun K hK=>?_;go_simp;obtain⟨UA,hUA⟩:=nm (U4.alloc (.cells #[.int .i64 0,.slice none 0 0,.int .i64 0] 69));have hbl:Below U4.heap.size U4 UA:=by rw[hUA];exact za6 (Below.refl _ U4) _
          have HUA:=zh (HU4.o.next hbl);obtain⟨xe,hxe⟩:=nm (U4.heap.size);have BX:=zh (show BoxN UA xe 69 [.int .i64 0,.slice none 0 0,.int .i64 0] by rw[hUA,hxe];exact BoxN.new U4 69 [.int .i64 0,.slice none 0 0,.int .i64 0]);have HXE:=zh (show wa.heap.size<=xe by rw[hxe];exact HU4.o.2.2.1.size);have HLT:=zh (show xe<UA.heap.size by rw[hxe,hUA,World.size_alloc];exact Nat.lt_succ_self _);have HUL:=zh (M.At.keep (T:=fun b=>wa.heap.size<=b/\b≠xe) (fun b hs hlt=>⟨hbl.block b hlt,Nat.le_trans HU2.o.2.2.1.size hs,by omega⟩) HUL.o);have HWV:=zh (show WayJ wa.heap.size UA dv (.slice pq dv pc')/\∀b o n c,Value.slice pq dv pc'=.slice (some ⟨b,o,none⟩) n c->b≠xe from zpD HWV0.o HU2.o.2.2.1.size (fun b hb=>hbl.block b hb) hxe);rw[<-hUA,<-hxe];clear hUA hxe hbl;refine hK _ _ (fun _=>HUA.o.2.2.2) ?_;clear hK K;obtain⟨z0,z1,z2⟩:=ff3 BX.o;obtain⟨b0,b1,b2⟩:=Fld.rr3 BX.o.row;have hl3:=BX.o.lt;refine Late.on (i:=9) fun K hK=>?_;go_simp;have HPUT:=zh (show Below wa.heap.size wa (((UA.setCell ⟨xe,0,none⟩ (.int .i64 cw.1)).setCell ⟨xe,1,none⟩ (.slice pq dv pc')).setCell ⟨xe,2,none⟩ (.int .i64 ae)) from zae HUA.o.2.2.1 HXE.o _ _ _);have HPR:=zh (HUA.o.put HXE.o HXB.o HN0.o (.int .i64 cw.1) (.slice pq dv pc') (.int .i64 ae));have BX2:=zh (zak rfl BX.o (.int .i64 cw.1) (.slice pq dv pc') (.int .i64 ae));have HWV2:=zh (zjA HWV.o (.int .i64 cw.1) (.slice pq dv pc') (.int .i64 ae));have HUL2:=zh (ziy HUL.o (.int .i64 cw.1) (.slice pq dv pc') (.int .i64 ae));clear z0 z1 z2 b0 b1 b2 hl3;obtain⟨uz,huz⟩:=nm ((((UA.setCell ⟨xe,0,none⟩ (.int .i64 cw.1)).setCell ⟨xe,1,none⟩ (.slice pq dv pc')).setCell ⟨xe,2,none⟩ (.int .i64 ae)));rw[<-huz] at HPUT HPR BX2 HUL2 HWV2 ⊢;clear huz;refine hK _ _ (fun _=>HPR.o) ?_;clear hK K;refine Late.on (i:=10) fun K hK=>?_;go_simp;refine hK _ _ (fun _=>HPR.o) ?_;clear hK K;refine Late.done (by kernel_rfl) ?_ _;go_wp2_with fail;go_meet;exact⟨xe,dv,_,ae,q,c,rfl,rfl,zh ⟨⟨BX2.o,HWV2.o,HUL2.o,HPUT.o,HXE.o⟩,HDV.o⟩⟩
        ·as_aux_lemma=>
          go_simp;obtain⟨UA,hUA⟩:=nm (U2.alloc (.cells #[.int .i64 0,.slice none 0 0,.int .i64 0] 69));have hbl:Below U2.heap.size U2 UA:=by rw[hUA];exact za6 (Below.refl _ U2) _
          have HUA:=zh (HU2.o.next hbl);obtain⟨xe,hxe⟩:=nm (U2.heap.size);have BX:=zh (show BoxN UA xe 69 [.int .i64 0,.slice none 0 0,.int .i64 0] by rw[hUA,hxe];exact BoxN.new U2 69 [.int .i64 0,.slice none 0 0,.int .i64 0]);have HXE:=zh (show wa.heap.size<=xe by rw[hxe];exact HU2.o.2.2.1.size);have HLT:=zh (show xe<UA.heap.size by rw[hxe,hUA,World.size_alloc];exact Nat.lt_succ_self _);rw[<-hUA,<-hxe];have HAB:=zh hbl;clear hUA hxe hbl;refine hK _ _ (fun _=>HUA.o.2.2.2) ?_;clear hK K;refine Late.on (i:=4) fun K hK=>?_;go_simp;refine(IH.o e0 HMEM.o _ (zat f k) _ _ (by have h1:=zf0 HFT.o hlt;have h2:=HDM.o.1;omega) (HGD.o.below HAB.o) (HDA.o.below HUA.o.2.1) (HS.o.below HUA.o.1) (HSW.o.below HUA.o.1) (Utf8Tabs_below HT.o HUA.o.1)).mono ?_;rintro e U4 ⟨dv,q,c,pv,ae,rfl,hwv,hl,hb⟩;rw[<-HCW.o] at hl ⊢;have HU4:=zh (HUA.o.next hb);have HUL:=zh (M.At.mono (T:=fun b=>wa.heap.size<=b/\b≠xe) (fun b hs=>⟨Nat.le_trans HUA.o.2.2.1.size hs,by have:=HLT.o;omega⟩) hl);have BX:=zh (BX.o.below hb BX.o.lt);have HDV:=zh hwv.2;obtain⟨pq,pc',rfl,-⟩:=hwv.1.way.v;have HWV:=zh (show WayJ wa.heap.size U4 dv (.slice pq dv pc')/\∀b o n c,Value.slice pq dv pc'=.slice (some ⟨b,o,none⟩) n c->b≠xe from⟨⟨hwv.1.way,fun b o n c e=>Nat.le_trans HUA.o.2.2.1.size (hwv.1.blk b o n c e),hwv.1.nil⟩,fun b o n c e=>by have h1:=hwv.1.blk b o n c e;have h2:=HLT.o;omega⟩);clear hwv hl hb HGD;refine hK _ _ (fun _=>HU4.o.2.2.2) ?_;clear hK K;refine Late.ta (i:=5) (v:=(.tuple #[.agg #[.int .i64 cw.1,.slice pq dv pc',.int .i64 ae],.slice q cw.2.length c])) ?_ HU4.o.2.2.2 ?_
          ·intro w' hS;go_simp
          refine Late.ta (i:=6) (v:=(.agg #[.int .i64 cw.1,.slice pq dv pc',.int .i64 ae])) ?_ HU4.o.2.2.2 ?_
          ·intro w' hS;go_simp
          refine Late.ta (i:=7) (v:=(.slice q cw.2.length c)) ?_ HU4.o.2.2.2 ?_
          ·intro w' hS;go_simp
          obtain⟨z0,z1,z2⟩:=ff3 BX.o;obtain⟨b0,b1,b2⟩:=Fld.rr3 BX.o.row;have hl3:=BX.o.lt;refine Late.on (i:=9) fun K hK=>?_;go_simp;have HPUT:=zh (show Below wa.heap.size wa (((U4.setCell ⟨xe,0,none⟩ (.int .i64 cw.1)).setCell ⟨xe,1,none⟩ (.slice pq dv pc')).setCell ⟨xe,2,none⟩ (.int .i64 ae)) from zae HU4.o.2.2.1 HXE.o _ _ _);have HPR:=zh (HU4.o.put HXE.o HXB.o HN0.o (.int .i64 cw.1) (.slice pq dv pc') (.int .i64 ae));have BX2:=zh (zak rfl BX.o (.int .i64 cw.1) (.slice pq dv pc') (.int .i64 ae));have HWV2:=zh (zjA HWV.o (.int .i64 cw.1) (.slice pq dv pc') (.int .i64 ae));have HUL2:=zh (ziy HUL.o (.int .i64 cw.1) (.slice pq dv pc') (.int .i64 ae));clear z0 z1 z2 b0 b1 b2 hl3;obtain⟨uz,huz⟩:=nm ((((U4.setCell ⟨xe,0,none⟩ (.int .i64 cw.1)).setCell ⟨xe,1,none⟩ (.slice pq dv pc')).setCell ⟨xe,2,none⟩ (.int .i64 ae)));rw[<-huz] at HPUT HPR BX2 HUL2 HWV2 ⊢;clear huz;refine hK _ _ (fun _=>HPR.o) ?_;clear hK K;refine Late.on (i:=10) fun K hK=>?_;go_simp;refine hK _ _ (fun _=>HPR.o) ?_;clear hK K;refine Late.done (by kernel_rfl) ?_ _;go_wp2_with fail;go_meet;exact⟨xe,dv,_,ae,q,c,rfl,rfl,zh ⟨⟨BX2.o,HWV2.o,HUL2.o,HPUT.o,HXE.o⟩,HDV.o⟩⟩
      ·as_aux_lemma=>
        obtain⟨ud,hud⟩:=nm (wa.drew);rw[<-hud] at HU0 ⊢;clear hud;have Hud:=HU0;go_simp;obtain⟨UA,hUA⟩:=nm (ud.alloc (.cells #[.int .i64 0,.slice none 0 0,.int .i64 0] 69));have hbl:Below ud.heap.size ud UA:=by rw[hUA];exact za6 (Below.refl _ ud) _
        have HUA:=zh (Hud.o.next hbl);obtain⟨xe,hxe⟩:=nm (ud.heap.size);have BX:=zh (show BoxN UA xe 69 [.int .i64 0,.slice none 0 0,.int .i64 0] by rw[hUA,hxe];exact BoxN.new ud 69 [.int .i64 0,.slice none 0 0,.int .i64 0]);have HXE:=zh (show wa.heap.size<=xe by rw[hxe];exact Hud.o.2.2.1.size);have HLT:=zh (show xe<UA.heap.size by rw[hxe,hUA,World.size_alloc];exact Nat.lt_succ_self _);rw[<-hUA,<-hxe];clear hUA hxe hbl;refine hK _ _ (fun _=>HUA.o.2.2.2) ?_;clear hK K;refine Late.on (i:=2) fun K hK=>?_;go_simp;refine(zfI (HF.o.below HUA.o.1) k HK1.o).mono ?_;rintro e U2 ⟨gp,gc,rfl,hgd,hb⟩;have HU2:=zh (HUA.o.next hb);have HGD:=zh hgd;have HLT:=zh (Nat.lt_of_lt_of_le HLT.o hb.size);have BX:=zh (BX.o.below hb BX.o.lt);clear hgd hb;refine hK _ _ (fun _=>HU2.o.2.2.2) ?_;clear hK K;refine Late.on (i:=4) fun K hK=>?_;go_simp;refine(IH.o e0 HMEM.o _ (zat f k) _ _ (by have h1:=zf0 HFT.o hlt;have h2:=HDM.o.1;omega) (HGD.o) (HDA.o.below HU2.o.2.1) (HS.o.below HU2.o.1) (HSW.o.below HU2.o.1) (Utf8Tabs_below HT.o HU2.o.1)).mono ?_;rintro e U4 ⟨dv,q,c,pv,ae,rfl,hwv,hl,hb⟩;rw[<-HCW.o] at hl ⊢;have HU4:=zh (HU2.o.next hb);have HUL:=zh (M.At.mono (T:=fun b=>wa.heap.size<=b/\b≠xe) (fun b hs=>⟨Nat.le_trans HU2.o.2.2.1.size hs,by have:=HLT.o;omega⟩) hl);have BX:=zh (BX.o.below hb BX.o.lt);have HDV:=zh hwv.2;obtain⟨pq,pc',rfl,-⟩:=hwv.1.way.v;have HWV:=zh (show WayJ wa.heap.size U4 dv (.slice pq dv pc')/\∀b o n c,Value.slice pq dv pc'=.slice (some ⟨b,o,none⟩) n c->b≠xe from⟨⟨hwv.1.way,fun b o n c e=>Nat.le_trans HU2.o.2.2.1.size (hwv.1.blk b o n c e),hwv.1.nil⟩,fun b o n c e=>by have h1:=hwv.1.blk b o n c e;have h2:=HLT.o;omega⟩);clear hwv hl hb HGD;refine hK _ _ (fun _=>HU4.o.2.2.2) ?_;clear hK K;refine Late.ta (i:=5) (v:=(.tuple #[.agg #[.int .i64 cw.1,.slice pq dv pc',.int .i64 ae],.slice q cw.2.length c])) ?_ HU4.o.2.2.2 ?_
        ·intro w' hS;go_simp
        refine Late.ta (i:=6) (v:=(.agg #[.int .i64 cw.1,.slice pq dv pc',.int .i64 ae])) ?_ HU4.o.2.2.2 ?_
        ·intro w' hS;go_simp
        refine Late.ta (i:=7) (v:=(.slice q cw.2.length c)) ?_ HU4.o.2.2.2 ?_
        ·intro w' hS;go_simp
        obtain⟨z0,z1,z2⟩:=ff3 BX.o;obtain⟨b0,b1,b2⟩:=Fld.rr3 BX.o.row;have hl3:=BX.o.lt;refine Late.on (i:=9) fun K hK=>?_;go_simp;have HPUT:=zh (show Below wa.heap.size wa (((U4.setCell ⟨xe,0,none⟩ (.int .i64 cw.1)).setCell ⟨xe,1,none⟩ (.slice pq dv pc')).setCell ⟨xe,2,none⟩ (.int .i64 ae)) from zae HU4.o.2.2.1 HXE.o _ _ _);have HPR:=zh (HU4.o.put HXE.o HXB.o HN0.o (.int .i64 cw.1) (.slice pq dv pc') (.int .i64 ae));have BX2:=zh (zak rfl BX.o (.int .i64 cw.1) (.slice pq dv pc') (.int .i64 ae));have HWV2:=zh (zjA HWV.o (.int .i64 cw.1) (.slice pq dv pc') (.int .i64 ae));have HUL2:=zh (ziy HUL.o (.int .i64 cw.1) (.slice pq dv pc') (.int .i64 ae));clear z0 z1 z2 b0 b1 b2 hl3;obtain⟨uz,huz⟩:=nm ((((U4.setCell ⟨xe,0,none⟩ (.int .i64 cw.1)).setCell ⟨xe,1,none⟩ (.slice pq dv pc')).setCell ⟨xe,2,none⟩ (.int .i64 ae)));rw[<-huz] at HPUT HPR BX2 HUL2 HWV2 ⊢;clear huz;refine hK _ _ (fun _=>HPR.o) ?_;clear hK K;refine Late.on (i:=10) fun K hK=>?_;go_simp;refine hK _ _ (fun _=>HPR.o) ?_;clear hK K;refine Late.done (by kernel_rfl) ?_ _;go_wp2_with fail;go_meet;exact⟨xe,dv,_,ae,q,c,rfl,rfl,zh ⟨⟨BX2.o,HWV2.o,HUL2.o,HPUT.o,HXE.o⟩,HDV.o⟩⟩
     case rest=>
      obtain⟨xe,dv,pv,ae,q,c,rfl,rfl,HP⟩:=hcut;have BX:=zh HP.o.1.1;have HWV:=zh HP.o.1.2.1;have HUL:=zh HP.o.1.2.2.1;have HBC:=zh HP.o.1.2.2.2.1;have HXE:=zh HP.o.1.2.2.2.2;have HDV:=zh HP.o.2;clear HP;have Q0:=zh (Z0.o.below HBC.o Z0.o.lt);have Q1:=zh (Z1.o.below HBC.o Z1.o.lt);have Q2:=zh (Z2.o.below HBC.o Z2.o.lt);have HB5:=zh ((HBw.o.trans (HBA.o.mono HBw.o.size)).trans (HBC.o.mono (HBw.o.trans (HBA.o.mono HBw.o.size)).size));have HBR5:=zh ((HBR.o.trans (HBA.o.mono HBR.o.size)).trans (HBC.o.mono (HBR.o.trans (HBA.o.mono HBR.o.size)).size));have HN2:=zh (show w.heap.size+1+1<wa.heap.size from Z2.o.lt);obtain⟨er,her0⟩:=nm (cw.1);rw[<-her0] at BX;obtain⟨b0,b1,b2⟩:=Fld.rr3 BX.o.row;have hlx:=BX.o.lt;have zx1:=BX.o.frozen 1;by_cases her:er≠0
      ·have hne:(er != 0)=true:=by simpa using her
       have HC:Hid (zap f d=(er,[])):=zh (by
        rw[zcS,if_neg (by rw[<-HER.o];simp),if_neg (by rw[<-HER3.o];simp)];have h1:=ziZ f (zac d) 0 k hlt (fun i hi hik=>by rw[Nat.zero_add];exact HOKP.o i hi hik) (by rw[Nat.zero_add,<-HE0.o,<-HCW.o,<-her0];exact her);rw[Nat.zero_add,<-HE0.o,<-HCW.o,<-her0] at h1;unfold zdA;rw[h1,if_pos her])
       have HER5:=zh her0;clear her her0;have hdv:dv<=1000000000000:=by have h1:=HDV.o;have h2:=HDM.o.2;omega
       have hdvd:dv+1<=dep:=by have h1:=HDV.o;have h2:=HDM.o.1;have h3:=zcH f;omega
       have HDVD:=zh hdvd;clear hdvd;obtain⟨i0,hi,hz0,hz1,hz2⟩:=info_parts zkB;have HONE:=zh (zqB wc (.int .i64 (k:Int)));rcases HWV.o.1.way with⟨h0,hv0⟩|⟨pb,po,pcap,xs,hpv,hpc,hpm,hxs,hcell,hone⟩
       ·subst h0 hv0;have hne2:¬(w.heap.size+1+1=xe):=by have:=HN2.o;have:=HXE.o;omega
        have hne3:¬(xe=w.heap.size+1+1):=by have:=HN2.o;have:=HXE.o;omega
        obtain⟨q0,q1,q2⟩:=Fld.rr3 Q2.o.row;obtain⟨z0,z1,z2⟩:=ff3 Q2.o;have hl3:=Q2.o.lt;go_wp2_with (at_builtin;refine wpList_append_own_none rfl _ _ 50 rfl wc.heap.size 3 i0 1 zhS hi _ 1 [.int .i64 (k:Int)] rfl HONE.o rfl ?_);rw[HC.o];exact zc0 (i:=4) (j:=5) rfl ((zak rfl (Q2.o.other (a:=⟨xe,1,none⟩) hne2 _) _ _ _).alloc _) ⟨zqC (by simp) HB5.o.size _,HDVD.o⟩ (za6 (zae (HB5.o.setCell (p:=⟨xe,1,none⟩) (by have:=HN2.o;have:=HXE.o;show w.heap.size<=xe;omega) _) (by omega) _ _ _) _) rfl rfl
       ·subst hpv;have HCELL:=zh hcell;have HXS:=zh hxs;have HOW:=zh hone;have hne2:¬(w.heap.size+1+1=xe):=by have:=HN2.o;have:=HXE.o;omega
        have hne3:¬(xe=w.heap.size+1+1):=by have:=HN2.o;have:=HXE.o;omega
        clear hcell hxs hone;go_wp2_with (at_builtin;refine wpList_append_own_at _ rfl _ _ 50 rfl wc.heap.size 3 i0 (.int .i64 0) 1 8 zhS hi hz0 hz1 hz2 rfl (by decide) _ 1 [.int .i64 (k:Int)] rfl ?e2 ⟨pb,po,none⟩ dv pcap xs rfl ?e4 ?e5 HOW.o (by unfold maxLen;omega) (by omega) ?e9 ?_)
        case e2=>exact HONE.o
        case e4=>rw[HXS.o,Nat.mul_one]
        case e5=>
         intro j u hj;rw[Addr.add_lit];exact zaa ((Below.refl _ wc).alloc (Nat.le_refl _) _) (HCELL.o j u hj)
        case e9=>simp
        intro v' w1 hown hgrow hnil hat;have hbw:Below wc.heap.size wc w1:=((Below.refl _ wc).alloc (Nat.le_refl _) _).grown hgrow (by simp) (fun k e=>by simp[Value.ownBlock] at e;omega);rw[Nat.add_comm 1 dv] at hown;obtain⟨gg,gc,rfl,hg1,hg2,hgw⟩:=WayAt.of_row hown (fun u hu=>by
         rcases List.mem_cons.1 hu with h|h
         ·subst h;rfl
         ·exact HOW.o u h)
        have Q2:=zh (Q2.o.below hbw Q2.o.lt);have BX:=zh (BX.o.below hbw BX.o.lt);have HB6:=zh (HB5.o.trans (hbw.mono HB5.o.size));have HGW:=zh hgw;have HLX:=zh hlx;have HGG:=zh hg1;clear hown hgrow hnil hat hbw hgw hg1 b0 b1 b2 hlx zx1;obtain⟨b0,b1,b2⟩:=Fld.rr3 BX.o.row;have hlx:=BX.o.lt;have zx1:=BX.o.frozen 1;obtain⟨q0,q1,q2⟩:=Fld.rr3 Q2.o.row;obtain⟨z0,z1,z2⟩:=ff3 Q2.o;have hl3:=Q2.o.lt;go_wp2_with fail;rw[HC.o];have hq1:gg≠xe:=by have:=HLX.o;have:=HGG.o;omega
        have hq2:gg≠w.heap.size+1+1:=by have:=HN2.o;have:=HGG.o;have:=HBC.o.size;omega
        exact zc0 (i:=4) (j:=5) rfl (zak rfl (Q2.o.other (a:=⟨xe,1,none⟩) hne2 _) _ _ _)
         ⟨⟨zix HGW.o (fun b o n c e _=>by
          cases e;rw[Below.heap_setCell _ _ _ _ hq2,Below.heap_setCell _ _ _ _ hq2,Below.heap_setCell _ _ _ _ hq2,Below.heap_setCell _ _ _ _ hq1]),fun b o n c e=>by cases e;have:=HGG.o;have:=HB5.o.size;omega,fun h=>by omega⟩,HDVD.o⟩
         (zae (HB6.o.setCell (p:=⟨xe,1,none⟩) (by have:=HN2.o;have:=HXE.o;show w.heap.size<=xe;omega) _) (by omega) _ _ _) rfl rfl
      ·have her':er=0:=by omega
       subst her';clear her;have hne:((0:Int) != 0)=false:=rfl;have HER5:=zh her0;clear her0;obtain⟨css,hgr⟩:=HGR.o;have hbwc:Below wr.heap.size wr wc:=HBA.o.trans (HBC.o.mono HBA.o.size);have hgw:=hgr.below hbwc;have hrl:(((za4 f 0 (zac d)).take k).map fun l=>[zdQ l]).length=k:=by rw[List.length_map,List.length_take,zcB];omega
       have hown:=hgw.own;rw[hrl] at hown;have hoff:∀j,(Value.slice tp k tc).ownBlock=some j->j<wr.heap.size:=fun j e=>(hgr.own.lt j e).2;have hatl:M.AtL (fun b=>(Value.slice tp k tc).ownBlock≠some b) wc [zdQ cw.2] [.slice q cw.2.length c]:=M.AtL.cons (M.At.mono (fun b hb e=>by have h1:=hoff b e;have h2:=HWA.o;omega) HUL.o) M.AtL.nil;have HOWN:=zh hown;have HGW:=zh hgw;have HATL:=zh hatl;have HRL:=zh hrl;have HZ:=zh (BoxN.new wc 50 [.slice q cw.2.length c]);have HBWC:=zh hbwc;obtain⟨i1,z1,hi1,hz1,hsz1,hby1,hzc1⟩:=zlc;have hs1:W4.heap.size<=wc.heap.size:=HBR5.o.size;have hkb:k<=1000000000:=by have:=zfM HFT.o;omega
       clear hgr hbwc hgw hrl hown hoff hatl;go_wp2_with (at_builtin;refine wpList_append_lies _ rfl _ _ 155 rfl W4.heap.size 50 i1 z1 1 24 zq3 hi1 hz1 hsz1 hby1 hzc1 (by decide) (.slice tp k tc) k (css.flatMap id) rfl (HOWN.o.alloc _) ⟨wc.heap.size,0,none⟩ 1 1 [.slice q cw.2.length c] rfl rfl (World.news_of_block HZ.o) (by simp[Value.oneCell']) (by decide) (by unfold maxLen;omega) (by omega) (by simp;omega) (wc.heap.size+1) (by simp) ?_;intro gg cc w2 hown2 hgrow2 hat2 hlt2);have HOK2:Hid (zjz f (zac d) (k+1)):=zh (fun i hi hik=>by
        by_cases hk2:i<k
        ·exact HOKP.o i hi hk2
        ·obtain rfl:i=k:=by omega
         rw[<-HE0.o,<-HCW.o,<-HER5.o])
       have HBR6:Hid (Below W4.heap.size W4 w2):=zh ((HBR5.o.alloc HBR5.o.size _).grown hgrow2 (by have:=HBR5.o.size;simp;omega) (fun j e=>(HOWN.o.lt j e).1));have HTK:Hid ((za4 f 0 (zac d)).take (k+1)=(za4 f 0 (zac d)).take k ++ [cw.2]):=zh (by
        have hkl:k<(za4 f 0 (zac d)).length:=by rw[zcB];exact hlt
        rw[List.take_add_one,List.getElem?_eq_getElem hkl,ze4 f _ 0 k hlt hkl,Nat.zero_add,<-HE0.o,<-HCW.o];rfl)
       have hpush:=(HGW.o.below ((Below.refl _ wc).alloc (Nat.le_refl _) (.cells #[.slice q cw.2.length c] 50))).push (HATL.o.below ((Below.refl _ wc).alloc (Nat.le_refl _) (.cells #[.slice q cw.2.length c] 50))) rfl HRL.o hown2 hgrow2 (by rw[World.size_alloc];exact hat2);refine⟨⟨k+1,some ⟨gg,0,none⟩,cc,by omega,by go_num,rfl,HOK2,HBR6,zh ⟨css ++ [[.slice q cw.2.length c]],?_⟩⟩,by simp only[intOf];omega⟩;rw[HTK.o,List.map_append];exact hpush
    ·have hke:k=(zac d).length:=by omega
     obtain⟨css,hgr⟩:=HGR.o;obtain⟨ws,hws0⟩:=nm (za4 f 0 (zac d));have hwl:ws.length=(zac d).length:=by rw[hws0,zcB]
     have hws:M.At (fun _=>True) wr (zk9 ws) (.slice tp k tc):=by
      have h1:=M.Grow.list (by decide) hgr;rw[<-hws0,List.take_of_length_le (by omega)] at h1;exact h1
     have hkw:k=ws.length:=by omega
     have hall:∀i (h:i<(zac d).length),(zap (zat f i) (zac d)[i]).1=0:=fun i hi=>HOKP.o i hi (by omega);have HWD:=zh (show Wd d ws by rw[hws0];exact zla hall);have HCL:=zh (show zbL f 0 (zac d)=(0,ws) by rw[hws0];exact zhl f (zac d) 0 (fun i hi=>by rw[Nat.zero_add];exact hall i hi));have HALL:=zh hall;rw[hkw] at hws;have HWS:=zh hws;have HKW:=zh hkw;have HFL:=zh HFT.o.len;clear hgr hws0 hwl hws hkw hall hke;by_cases h20:f.k=20
     ·have q20:(f.k == 20)=true:=by simpa using h20
      obtain⟨hk1,n',o',G,hb1',hs',hed⟩:=zi0 HFT.o h20 HALL.o;have few:=HFT.o.few;have hcall:=znb (HD.o.below HBw.o) hk1 rfl rfl n' o' n o G.len G.off HFT.o.len HFT.o.off (o+n) rfl (by omega) hb1' hs';rw[<-hed] at hcall;have HCALL:=zh hcall;have HEE:=zh (show f.k=20->∀h:1<d.kids.length,zbO d.kids[0] d.kids[1] ((o+n:Nat):Int)=zdR d/\∃n' o',Fit endsF d.kids[0] n' o' from fun _ _=>⟨hed.symm,n',o',G⟩);have H20:=zh h20;clear hs' few hcall h20;obtain⟨p0,p1,p2,p3,p4,p5,p6⟩:=Fld.rr7 Y0.o.row;obtain⟨rr0,rr1,rr2,rr3,rr4,rr5⟩:=Fld.rr6 Y1.o.row;have hl1:=Y0.o.lt;have hl2:=Y1.o.lt;go_wp2_with fail;refine HCALL.o.mono ?_;rintro e V5 ⟨d5,pv5,at5,rfl,hwv,hb⟩;obtain⟨_,_,rfl,rfl,rfl,rfl⟩:=hwv;have HV5:=zh (HBw.o.trans (hb.mono HBw.o.size));have HVV:=zh hb;have Y0:=zh (Y0.o.below hb Y0.o.lt);have Y1:=zh (Y1.o.below hb Y1.o.lt);have Y2:=zh (Y2.o.below hb Y2.o.lt);clear hb p0 p1 p2 p3 p4 p5 p6 rr0 rr1 rr2 rr3 rr4 rr5 hl1 hl2;obtain⟨er,her0⟩:=nm (zdR d);rw[<-her0] at HEE ⊢;have HER5:=zh her0;clear her0;have hl1:=Y0.o.lt;have hl2:=Y1.o.lt;by_cases her:er≠0
      ·as_aux_lemma=>
        have hne:(er != 0)=true:=by simpa using her
        have HC:Hid (zap f d=(er,[])):=zh (by
         rw[zcS,if_neg (by rw[<-HER.o];simp),if_neg (by rw[<-HER3.o];simp),HCL.o];unfold zdA;rw[if_neg (by simp),<-HER5.o,if_pos ⟨H20.o,her⟩])
        clear her;obtain⟨q0,q1,q2⟩:=Fld.rr3 Y2.o.row;obtain⟨z0,z1,z2⟩:=ff3 Y2.o;have hl3:=Y2.o.lt;go_wp2_with fail;rw[HC.o];exact zc0 (i:=4) (j:=5) rfl ((zak rfl Y2.o _ _ _).alloc _) zeO (za6 (zae HV5.o (by omega) _ _ _) _) rfl rfl
      ·have her':er=0:=by omega
       subst her';clear her;have hne:((0:Int) != 0)=false:=rfl;have HCR:Hid (zap f d=if 4194304<za9 0 (zbo f d ws) then(3,[]) else(0,zbo f d ws)):=zh (by
        rw[zcS,if_neg (by rw[<-HER.o];simp),if_neg (by rw[<-HER3.o];simp),HCL.o];unfold zdA;rw[if_neg (by simp),if_neg (fun h=>h.2 HER5.o.symm)])
       obtain⟨W5,hW⟩:∃W,W=V5.alloc (.cells #[.int .i64 0,.slice none 0 0,.int .i64 at5] 69):=⟨_,rfl⟩;have hbb:Below wr.heap.size wr W5:=by rw[hW];exact HVV.o.alloc HVV.o.size _
       have HBw:=zh (show Below w.heap.size w W5 by rw[hW];exact za6 HV5.o _);have Z0:=zh (show BoxN W5 w.heap.size 26 (f7 f fp fc) by rw[hW];exact Y0.o.alloc _);have Z1:=zh (show BoxN W5 (w.heap.size+1) 46 (d6 d bp bc kp kc dp dc) by rw[hW];exact Y1.o.alloc _);have Z2:=zh (show BoxN W5 (w.heap.size+1+1) 69 [.int .i64 0,.slice none 0 0,.int .i64 0] by rw[hW];exact Y2.o.alloc _);have HWS:=zh (HWS.o.below hbb);have HWQ:=zh hW;clear hbb hW;obtain⟨p0,p1,p2,p3,p4,p5,p6⟩:=Fld.rr7 Y0.o.row;obtain⟨rr0,rr1,rr2,rr3,rr4,rr5⟩:=Fld.rr6 Y1.o.row;go_wp2_with fail;have HCALL:=zh (zgV (HF.o.below HBw.o) (HD.o.below HBw.o) HFT.o HER3.o.symm HWS.o HWD.o (fun e he=>(HOK.o.dict e he).len) HEE.o);rw[<-HKW.o] at HCALL;rw[<-HWQ.o];refine HCALL.o.mono ?_;rintro e W6 ⟨wp,wc6,rfl,hwt,hb⟩;have HB6:=zh (HBw.o.trans (hb.mono HBw.o.size));have V2:=zh (Z2.o.below hb Z2.o.lt);obtain⟨hr,hhr⟩:=nm (W5.heap.size);rw[<-hhr] at hwt;have HRB:=zh (show w.heap.size+1+1<hr by rw[hhr];exact Z2.o.lt);have HRW:=zh (show w.heap.size<=hr by rw[hhr];exact HBw.o.size);obtain⟨lw,hlw⟩:=nm (zbo f d ws);rw[<-hlw] at hwt HCR;obtain⟨⟨hnl,hl1',hl2'⟩,hget⟩:=zee hwt;unfold maxLen at hl2';have HWT:=zh hwt;have HGET:=zh hget;have HNL:=zh hnl;have HF0:Hid (za9 0 (lw.take 0)=0):=zh rfl;have hnc:n<=wc6:=by omega
       clear hb hhr hwt hget hlw hnl hl1' p0 p1 p2 p3 p4 p5 p6 rr0 rr1 rr2 rr3 rr4 rr5 hl1 hl2;go_wp2_with fail
       go_loopw [79,15] (fun i t15 wx=>∃j:Nat,j<=n/\i=.int .i64 j/\t15=.int .i64 (za9 0 (lw.take j))/\Hid (wx=W6)) (fun i _ _=>n-(intOf i).toNat)
       case atStart=>exact⟨0,Nat.zero_le _,rfl,by rw[HF0.o],zh rfl⟩
       case round=>
        obtain⟨j,hj,rfl,rfl,HWW⟩:=hrel;have hww:=HWW.o;subst hww;obtain⟨sj,hsj⟩:=nm (za9 0 (lw.take j));rw[<-hsj];by_cases hjl:j<n
        ·have hjl':j<lw.length:=by have:=HNL.o;omega
         obtain⟨ib,io,ewp,-,hx⟩:=HGET.o j hjl';subst ewp;have HST:Hid (za9 0 (lw.take (j+1))=wrap64 (sj+lw[j])):=zh (by rw[hsj];exact zgx 0 lw j hjl');obtain⟨x,hxx,hST⟩:∃x,wr.cell? ⟨ib,io+j,none⟩=some (.int .i64 x)/\za9 0 (lw.take (j+1))=wrap64 (sj+x):=⟨_,hx,HST.o⟩;clear HST;have HST:=zh hST;clear hx hST hsj;go_wp2_with fail;go_roundw
         case rel=>exact⟨j+1,by omega,by go_num,by rw[HST.o],by first|exact zh rfl|exact zh trivial⟩
         case measure=>simp only[intOf];omega
        ·have hsum:sj=za9 0 lw:=by rw[hsj,List.take_of_length_le (by have:=HNL.o;omega)]
         have HSUM:=zh hsum;clear hsj hsum;by_cases hbig:4194304<sj
         ·have HC:Hid (zap f d=(3,[])):=zh (by rw[HCR.o,<-HSUM.o,if_pos hbig]);go_wp2_with fail;refine(zar 3 _ _).mono ?_;rintro e V7 ⟨d7,pv7,at7,rfl,hwv,hb⟩;obtain⟨_,_,rfl,rfl,rfl,rfl⟩:=hwv;have V2:=zh (V2.o.below hb V2.o.lt);have HB7:=zh (HB6.o.trans (hb.mono HB6.o.size));clear hb;obtain⟨q0,q1,q2⟩:=Fld.rr3 V2.o.row;obtain⟨z0,z1,z2⟩:=ff3 V2.o;have hl3:=V2.o.lt;go_wp2_with fail;rw[HC.o];exact zc0 (i:=4) (j:=5) rfl (zak rfl V2.o _ _ _) zeO (zae HB7.o (by omega) _ _ _) rfl rfl
         ·have HC:Hid (zap f d=(0,lw)):=zh (by rw[HCR.o,<-HSUM.o,if_neg hbig]);obtain⟨q0,q1,q2⟩:=Fld.rr3 V2.o.row;obtain⟨z0,z1,z2⟩:=ff3 V2.o;have hl3:=V2.o.lt;go_wp2_with fail;rw[HC.o];exact zid (i:=4) (j:=5) rfl HNL.o (zak rfl V2.o _ _ _) zeO (M.At.keep (T:=fun b=>w.heap.size<=b) (fun b hs _=>by
           have hne:b≠w.heap.size+1+1:=by have:=HRB.o;omega
           exact⟨by rw[Below.heap_setCell _ _ _ _ hne,Below.heap_setCell _ _ _ _ hne,Below.heap_setCell _ _ _ _ hne],Nat.le_trans HRW.o hs⟩) HWT.o) (zae HB6.o (by omega) _ _ _) rfl rfl
     ·have q20:(f.k == 20)=false:=by simpa using h20
      have HCR:Hid (zap f d=if 4194304<za9 0 (zbo f d ws) then(3,[]) else(0,zbo f d ws)):=zh (by
       rw[zcS,if_neg (by rw[<-HER.o];simp),if_neg (by rw[<-HER3.o];simp),HCL.o];unfold zdA;rw[if_neg (by simp),if_neg (fun h=>h20 h.1)])
      have HCALL:=zh (zgV (HF.o.below HBw.o) (HD.o.below HBw.o) HFT.o HER3.o.symm HWS.o HWD.o (fun e he=>(HOK.o.dict e he).len) (fun h=>absurd h h20));rw[<-HKW.o] at HCALL;clear h20;obtain⟨p0,p1,p2,p3,p4,p5,p6⟩:=Fld.rr7 Y0.o.row;obtain⟨rr0,rr1,rr2,rr3,rr4,rr5⟩:=Fld.rr6 Y1.o.row;have hl1:=Y0.o.lt;have hl2:=Y1.o.lt;go_wp2_with fail;refine HCALL.o.mono ?_;rintro e W6 ⟨wp,wc6,rfl,hwt,hb⟩;have HB6:=zh (HBw.o.trans (hb.mono HBw.o.size));have V2:=zh (Y2.o.below hb Y2.o.lt);obtain⟨hr,hhr⟩:=nm (wr.heap.size);rw[<-hhr] at hwt;have HRB:=zh (show w.heap.size+1+1<hr by rw[hhr];exact Y2.o.lt);have HRW:=zh (show w.heap.size<=hr by rw[hhr];exact HBw.o.size);obtain⟨lw,hlw⟩:=nm (zbo f d ws);rw[<-hlw] at hwt HCR;obtain⟨⟨hnl,hl1',hl2'⟩,hget⟩:=zee hwt;unfold maxLen at hl2';have HWT:=zh hwt;have HGET:=zh hget;have HNL:=zh hnl;have HF0:Hid (za9 0 (lw.take 0)=0):=zh rfl;have hnc:n<=wc6:=by omega
      clear hb hhr hwt hget hlw hnl hl1' p0 p1 p2 p3 p4 p5 p6 rr0 rr1 rr2 rr3 rr4 rr5 hl1 hl2;go_wp2_with fail
      go_loopw [79,15] (fun i t15 wx=>∃j:Nat,j<=n/\i=.int .i64 j/\t15=.int .i64 (za9 0 (lw.take j))/\Hid (wx=W6)) (fun i _ _=>n-(intOf i).toNat)
      case atStart=>exact⟨0,Nat.zero_le _,rfl,by rw[HF0.o],zh rfl⟩
      case round=>
       obtain⟨j,hj,rfl,rfl,HWW⟩:=hrel;have hww:=HWW.o;subst hww;obtain⟨sj,hsj⟩:=nm (za9 0 (lw.take j));rw[<-hsj];by_cases hjl:j<n
       ·have hjl':j<lw.length:=by have:=HNL.o;omega
        obtain⟨ib,io,ewp,-,hx⟩:=HGET.o j hjl';subst ewp;have HST:Hid (za9 0 (lw.take (j+1))=wrap64 (sj+lw[j])):=zh (by rw[hsj];exact zgx 0 lw j hjl');obtain⟨x,hxx,hST⟩:∃x,wr.cell? ⟨ib,io+j,none⟩=some (.int .i64 x)/\za9 0 (lw.take (j+1))=wrap64 (sj+x):=⟨_,hx,HST.o⟩;clear HST;have HST:=zh hST;clear hx hST hsj;go_wp2_with fail;go_roundw
        case rel=>exact⟨j+1,by omega,by go_num,by rw[HST.o],by first|exact zh rfl|exact zh trivial⟩
        case measure=>simp only[intOf];omega
       ·have hsum:sj=za9 0 lw:=by rw[hsj,List.take_of_length_le (by have:=HNL.o;omega)]
        have HSUM:=zh hsum;clear hsj hsum;by_cases hbig:4194304<sj
        ·have HC:Hid (zap f d=(3,[])):=zh (by rw[HCR.o,<-HSUM.o,if_pos hbig]);go_wp2_with fail;refine(zar 3 _ _).mono ?_;rintro e V7 ⟨d7,pv7,at7,rfl,hwv,hb⟩;obtain⟨_,_,rfl,rfl,rfl,rfl⟩:=hwv;have V2:=zh (V2.o.below hb V2.o.lt);have HB7:=zh (HB6.o.trans (hb.mono HB6.o.size));clear hb;obtain⟨q0,q1,q2⟩:=Fld.rr3 V2.o.row;obtain⟨z0,z1,z2⟩:=ff3 V2.o;have hl3:=V2.o.lt;go_wp2_with fail;rw[HC.o];exact zc0 (i:=4) (j:=5) rfl (zak rfl V2.o _ _ _) zeO (zae HB7.o (by omega) _ _ _) rfl rfl
        ·have HC:Hid (zap f d=(0,lw)):=zh (by rw[HCR.o,<-HSUM.o,if_neg hbig]);obtain⟨q0,q1,q2⟩:=Fld.rr3 V2.o.row;obtain⟨z0,z1,z2⟩:=ff3 V2.o;have hl3:=V2.o.lt;go_wp2_with fail;rw[HC.o];exact zid (i:=4) (j:=5) rfl HNL.o (zak rfl V2.o _ _ _) zeO (M.At.keep (T:=fun b=>w.heap.size<=b) (fun b hs _=>by
          have hne:b≠w.heap.size+1+1:=by have:=HRB.o;omega
          exact⟨by rw[Below.heap_setCell _ _ _ _ hne,Below.heap_setCell _ _ _ _ hne,Below.heap_setCell _ _ _ _ hne],Nat.le_trans HRW.o hs⟩) HWT.o) (zae HB6.o (by omega) _ _ _) rfl rfl
theorem zj3:∀(m:Nat) (d:Dt),zaN d<=m->DtOk d->∀(dep:Nat),dep<=1000000000000->∀(w:World) (f:Fd) (fs ds:List Value),zau f<=dep->FdAt w f fs->DAt (fun _=>True) w d ds->SaysAt w->SaysW w->Lib.Utf8Tabs 1 2 w->Calls Tryz.prog 50 #[.agg fs.toArray,.agg ds.toArray] w (zdC w dep (zap f d))
 | 0,d,hm,_,_,_,_,_,_,_,_,_,_,_,_,_=>by
  exfalso
  cases d with
  | mk len off nul bufs kids dict=>rw[zaN] at hm;omega
 | m+1,d,hm,hok,dep,hdp,w,f,fs,ds,hdm,hf,hd,hS,hW,hT=>
  znj hf hd hS hW hT hok hdm hdp (fun e he w f fs ds hdm hf hd hS hW hT=>zj3 m e (by have:=zcf he;omega) (hok.parts e he) _ (by omega) w f fs ds hdm hf hd hS hW hT)
theorem zku {w:World}{f:Fd}{d:Dt}{fs ds:List Value}(hf:FdAt w f fs)(hd:DAt (fun _=>True) w d ds)(hS:SaysAt w)(hW:SaysW w)(hT:Lib.Utf8Tabs 1 2 w)(hok:DtOk d)(hdp:zau f<=1000000000000) :
  Calls Tryz.prog 50 #[.agg fs.toArray,.agg ds.toArray] w (zdC w (zau f) (zap f d)):=zj3 _ d (Nat.le_refl _) hok _ hdp w f fs ds (Nat.le_refl _) hf hd hS hW hT
end Go.Fld
namespace Go.Fld
open Go Go.RowKit Go.Proofs Go.ChangeShapes Go.WideShapes Go.ChangeAt Go.Shelf
def zaG (f:Fd)(d:Dt):Int:=if zbh f≠0 then 5 else(zap f d).1
theorem zmi {w:World}{f:Fd}{d:Dt}{fs ds:List Value}(hf:FdAt w f fs)(hd:DAt (fun _=>True) w d ds)(hS:SaysAt w)(hW':SaysW w)(hT:Lib.Utf8Tabs 1 2 w)(hok:DtOk d) :
  Calls Tryz.prog 34 #[.agg fs.toArray,.agg ds.toArray] w (zfG w (zaG f d)):=by
 obtain⟨fp,fc,rfl,-⟩:=hf.shape;obtain⟨bp,bc,kp,kc,dp,dc,rfl,-,-,-⟩:=hd.shape;have HF:=zh hf;have HD:=zh hd;have HT:=zh hT;have HS:=zh hS;have HSW:=zh hW';have HOK:=zh hok;clear hf hd hT hS hW' hok;obtain⟨W1,hW,x0,x1,x2,hBW⟩:=zbG w 26 (f7 f fp fc) 46 (d6 d bp bc kp kc dp dc) 69 [.int .i64 0,.slice none 0 0,.int .i64 0];have X0:=zh x0;have X1:=zh x1;have X2:=zh x2;have HB1:=zh hBW;have HW:=zh hW;clear x0 x1 x2 hBW hW
 go_in
 go_wp2_with fail;rw[<-HW.o];clear HW;refine(zdg (HF.o.below HB1.o) (HS.o.below HB1.o)).mono ?_;rintro e V2 ⟨d2,pv2,at2,rfl,hwv,hb⟩;obtain⟨pq2,pc2,rfl,-⟩:=hwv;have HV2:=zh (HB1.o.trans (hb.mono HB1.o.size));have X0:=zh (X0.o.below hb X0.o.lt);have X1:=zh (X1.o.below hb X1.o.lt);have X2:=zh (X2.o.below hb X2.o.lt);clear hb;have hfe:=fun w'=>show(Instr.field 69 (.agg #[.int .i64 (zbh f),.slice pq2 d2 pc2,.int .i64 at2]) 0).run Tryz.prog w'=.ok (.int .i64 (zbh f)) w' by kernel_rfl
 obtain⟨er,her0⟩:=nm (zbh f);rw[<-her0] at hfe ⊢;have HER:=zh her0;clear her0;by_cases her:er≠0
 ·have hne:(er != 0)=true:=by simpa using her
  have HR:Hid (zaG f d=5):=zh (by unfold zaG;rw[<-HER.o,if_pos her]);clear her;go_wp2_with fail;refine(zar 5 _ _).mono ?_;rintro e V3 ⟨d3,pv3,at3,rfl,hwv,hb⟩;obtain⟨_,_,rfl,rfl,rfl,rfl⟩:=hwv;have X2:=zh (X2.o.below hb X2.o.lt);have HV3:=zh (HV2.o.trans (hb.mono HV2.o.size));clear hb;obtain⟨q0,q1,q2⟩:=Fld.rr3 X2.o.row;obtain⟨z0,z1,z2⟩:=ff3 X2.o;have hl3:=X2.o.lt;go_wp2_with fail;rw[HR.o];exact zev (i:=4) rfl (zak rfl X2.o _ _ _) zeK (zae HV3.o (by omega) _ _ _) rfl
 ·have her':er=0:=by omega
  subst her';have hne:((0:Int) != 0)=false:=rfl;have HR:Hid (zaG f d=(zap f d).1):=zh (by unfold zaG;rw[<-HER.o,if_neg (by simp)]);clear her;obtain⟨p0,p1,p2,p3,p4,p5,p6⟩:=Fld.rr7 X0.o.row;obtain⟨rr0,rr1,rr2,rr3,rr4,rr5⟩:=Fld.rr6 X1.o.row;have hl1:=X0.o.lt;have hl2:=X1.o.lt;go_wp2_with fail;refine(zku (HF.o.below HV2.o) (HD.o.below HV2.o) (HS.o.below HV2.o) (HSW.o.below HV2.o) (Utf8Tabs_below HT.o HV2.o) HOK.o (by have:=zmh HER.o.symm;omega)).mono ?_;rintro e V3 ⟨dv,q,cap,pv,ae,rfl,hwv,-,hb⟩;have HWV:=zh hwv.1.way.v;obtain⟨pq,pc,rfl,-⟩:=hwv.1.way.v;have X2:=zh (X2.o.below hb X2.o.lt);have HV3:=zh (HV2.o.trans (hb.mono HV2.o.size));clear hwv hb p0 p1 p2 p3 p4 p5 p6 rr0 rr1 rr2 rr3 rr4 rr5 hl1 hl2;obtain⟨q0,q1,q2⟩:=Fld.rr3 X2.o.row;obtain⟨z0,z1,z2⟩:=ff3 X2.o;have hl3:=X2.o.lt;obtain⟨cw,hcw⟩:=nm (zap f d);rw[<-hcw] at HR ⊢;clear hcw;go_wp2_with fail;rw[HR.o];exact zev (i:=4) rfl ((zak rfl X2.o _ _ _).alloc _) HWV.o (za6 (zae HV3.o (by omega) _ _ _) _) rfl
def zdS (k:Int):Value:=.iface (if k=12\/k=13 then 161 else if k=15\/k=16 then 162 else if k=17 then 163 else if k=18 then 164 else if k=19 then 165 else if k=20 then 166 else 167) (.agg #[])
theorem zho (k:Int)(w:World):Calls Tryz.prog 51 #[.int .i64 k] w (zaz w (zdS k)):=by
 unfold zdS;by_cases h12:k=12
 ·subst h12;go_in;go_wp2_with fail;go_ret;exact zav rfl rfl
 by_cases h13:k=13
 ·subst h13;go_in;go_wp2_with fail;go_ret;exact zav rfl rfl
 by_cases h15:k=15
 ·subst h15;go_in;go_wp2_with fail;go_ret;exact zav rfl rfl
 by_cases h16:k=16
 ·subst h16;go_in;go_wp2_with fail;go_ret;exact zav rfl rfl
 by_cases h17:k=17
 ·subst h17;go_in;go_wp2_with fail;go_ret;exact zav rfl rfl
 by_cases h18:k=18
 ·subst h18;go_in;go_wp2_with fail;go_ret;exact zav rfl rfl
 by_cases h19:k=19
 ·subst h19;go_in;go_wp2_with fail;go_ret;exact zav rfl rfl
 by_cases h20:k=20
 ·subst h20;go_in;go_wp2_with fail;go_ret;exact zav rfl rfl
 rw[if_neg (by omega),if_neg (by omega),if_neg h17,if_neg h18,if_neg h19,if_neg h20];have q12:(k == 12)=false:=by simpa using h12
 have q13:(k == 13)=false:=by simpa using h13
 have q15:(k == 15)=false:=by simpa using h15
 have q16:(k == 16)=false:=by simpa using h16
 have q17:(k == 17)=false:=by simpa using h17
 have q18:(k == 18)=false:=by simpa using h18
 have q19:(k == 19)=false:=by simpa using h19
 have q20:(k == 20)=false:=by simpa using h20
 clear h12 h13 h15 h16 h17 h18 h19 h20
 go_in
 go_wp2_with fail;go_ret;exact zav rfl rfl
end Go.Fld
namespace Go.Fld
open Go Go.RowKit Go.Proofs Go.ChangeShapes Go.WideShapes Go.ChangeAt Go.Shelf Go.Fld.Late
theorem zi1 (f:Fd):∀(l:List Dt) (k:Nat),(zbL f k l).1=0->∀i (h:i<l.length),(zap (zat f (k+i)) l[i]).1=0
 | p :: r,k,hz,i,hi=>by
  rw[ze3] at hz;by_cases h1:(zap (zat f k) p).1≠0
  ·rw[if_pos h1] at hz;exact absurd hz h1
  rw[if_neg h1] at hz;by_cases h2:(zbL f (k+1) r).1≠0
  ·rw[if_pos h2] at hz;exact absurd hz h2
  match i,hi with
  | 0,_=>simpa using h1
  | i+1,hi=>
   have:=zi1 f r (k+1) (by simpa using h2) i (by simpa using hi);rw[List.getElem_cons_succ,show k+(i+1)=k+1+i by omega];exact this
structure WellD (f:Fd)(d:Dt):Prop where
 sizes:zaP f d=0
 rows:zaH f d=0
 parts:∀i (h:i<(zac d).length),(zap (zat f i) (zac d)[i]).1=0
 ends:f.k=20->zdR d=0
 wts:zap f d=(0,zbo f d (za4 f 0 (zac d)))/\za9 0 (zbo f d (za4 f 0 (zac d)))<=4194304
theorem WellD.of {f:Fd}{d:Dt}(h:(zap f d).1=0):WellD f d:=by
 have h':=h;rw[zcS] at h;by_cases h1':zaP f d≠0
 ·rw[if_pos h1'] at h;exact absurd h h1'
 rw[if_neg h1'] at h;have h1:zaP f d=0:=by simpa using h1'
 by_cases h2':zaH f d≠0
 ·rw[if_pos h2'] at h;exact absurd h h2'
 rw[if_neg h2'] at h;have h2:zaH f d=0:=by simpa using h2'
 have e:=zcS f d;rw[if_neg (by simp[h1]),if_neg (by simp[h2])] at e;have h0:(zbL f 0 (zac d)).1=0:=by
  unfold zdA at h;by_cases h3:(zbL f 0 (zac d)).1=0
  ·exact h3
  ·rw[if_pos h3] at h;exact absurd h h3
 have hp:∀i (h:i<(zac d).length),(zap (zat f i) (zac d)[i]).1=0:=fun i hi=>by
  have:=zi1 f (zac d) 0 h0 i hi
  rwa [Nat.zero_add] at this
 have hL:=zhl f (zac d) 0 (fun i hi=>by rw[Nat.zero_add];exact hp i hi);rw[hL] at h e;unfold zdA at h e;rw[if_neg (by simp)] at h e;by_cases h4:f.k=20/\zdR d≠0
 ·rw[if_pos h4] at h;exact absurd h h4.2
 rw[if_neg h4] at h e;by_cases h5:4194304<za9 0 (zbo f d (za4 f 0 (zac d)))
 ·rw[if_pos h5] at h;simp at h
 rw[if_neg h5] at e;exact⟨h1,h2,hp,fun hk=>by
  rcases Decidable.em (zdR d=0) with g|g
  ·exact g
  ·exact absurd ⟨hk,g⟩ h4,e,by omega⟩
theorem zoo:∀ {f:Fd},okF f->FdFew f:=fun {f}=>zg6 (P:=fun f=>okF f->FdFew f) (fun f ih hf=>by
 cases f with
 | mk nm nl k wd id ix kids=>
  simp only[okF] at hf;exact .mk (Nat.le_trans hf.2.1 (by decide)) fun g hg=>ih g hg (zeL hf.2.2 g hg)) f
theorem zld {f:Fd}(h:zbh f=0):FdFew f:=by
 have:=(zjQ (L:=[f]) h).1;simp only[okL] at this;exact zoo this.1
theorem zie:∀(n:Nat) {f:Fd} {d:Dt},zaN d<=n->(zap f d).1=0->DtFew d
 | 0,f,d,hn,_=>by cases d with|mk len off nul bufs kids dict=>rw[zaN] at hn;omega
 | n+1,f,d,hn,h=>by
  have w:=WellD.of h;obtain⟨m,o,F⟩:=Fit.of w.sizes;have hp:=zfM F;have hb:d.bufs.length<=3:=by
   have:=F.nb;have:=ziW f.k.toNat;omega
  have all:∀e ∈ zac d,DtFew e:=fun e he=>by
   obtain⟨i,hi,rfl⟩:=List.getElem_of_mem he;exact zie n (by have:=zcf he;omega) (w.parts i hi)
  by_cases h19:f.k=19
  ·have hpd:=F.partsDict h19;have hk0:d.kids.length=0:=by
    rw[F.nk];unfold zbY;simp[h19]
   have hk:d.kids=[]:=List.eq_nil_of_length_eq_zero hk0;refine .mk ⟨by omega,by omega,by rw[hpd] at hp;omega⟩ (fun e he=>by rw[hk] at he;cases he) (fun e he=>all e (by rw[hpd];exact he))
  ·have hpd:=F.parts h19;have hd0:d.dict.length=0:=by
    have:=F.nd;rw[if_neg h19] at this;omega
   have hk:d.dict=[]:=List.eq_nil_of_length_eq_zero hd0;refine .mk ⟨by omega,by rw[hpd] at hp;omega,by omega⟩ (fun e he=>all e (by rw[hpd];exact he)) (fun e he=>by rw[hk] at he;cases he)
def zdt (f:Fd)(fp:Option Addr)(fc:Nat)(d:Dt)(bp:Option Addr)(bc:Nat)(kp:Option Addr)(kc:Nat)(dp:Option Addr)(dc:Nat)(fr n:Int):List Value:=
 [.string f.nm,.bool f.nl,.int .i64 f.k,.int .i64 f.wd,.int .i64 f.id,.int .i64 f.ix,.slice fp f.kids.length fc,.int .i64 d.len,.int .i64 d.off,.int .i64 d.nul,.slice bp d.bufs.length bc,.slice kp d.kids.length kc,.slice dp d.dict.length dc,.int .i64 fr,.int .i64 n,.pointer none,zdS f.k]
structure ArrAt (w0 w:World)(b:Nat)(f:Fd)(d:Dt)(fr n:Int):Prop where
 at':∃fp fc bp bc kp kc dp dc,BoxN w b 115 (zdt f fp fc d bp bc kp kc dp dc fr n)/\FdAt w0 f (f7 f fp fc)/\DAt (fun _=>True) w0 d (d6 d bp bc kp kc dp dc)
theorem ArrAt.below {w0 w w':World}{b:Nat}{f:Fd}{d:Dt}{fr n:Int}(h:ArrAt w0 w b f d fr n)(hb:Below w.heap.size w w'):ArrAt w0 w' b f d fr n:=by
 obtain⟨fp,fc,bp,bc,kp,kc,dp,dc,h1,h2,h3⟩:=h.at';exact⟨fp,fc,bp,bc,kp,kc,dp,dc,h1.below hb h1.lt,h2,h3⟩
theorem ArrAt.base {w0 w1 w:World}{b:Nat}{f:Fd}{d:Dt}{fr n:Int}(h:ArrAt w0 w b f d fr n)(hb:Below w0.heap.size w0 w1):ArrAt w1 w b f d fr n:=by
 obtain⟨fp,fc,bp,bc,kp,kc,dp,dc,h1,h2,h3⟩:=h.at';exact⟨fp,fc,bp,bc,kp,kc,dp,dc,h1,h2.below hb,h3.below hb⟩
theorem ArrAt.lt {w0 w:World}{b:Nat}{f:Fd}{d:Dt}{fr n:Int}(h:ArrAt w0 w b f d fr n):b<w.heap.size:=by
 obtain⟨fp,fc,bp,bc,kp,kc,dp,dc,h1,h2,h3⟩:=h.at';exact h1.lt
theorem ArrAt.kept {w0 w w':World}{row:Option Nat}{b:Nat}{f:Fd}{d:Dt}{fr n:Int}(h:ArrAt w0 w b f d fr n)(hg:w.grownBy w' row)(hne:some b≠row):ArrAt w0 w' b f d fr n:=by
 obtain⟨fp,fc,bp,bc,kp,kc,dp,dc,h1,h2,h3⟩:=h.at';exact⟨fp,fc,bp,bc,kp,kc,dp,dc,h1.kept hg hne,h2,h3⟩
def zi2 (w0 w:World)(f:Fd)(d:Dt)(fr n:Int)(e:Ending)(w':World):Prop:=∃b,e=.returned (.pointer (some ⟨b,0,none⟩))/\w.heap.size<=b/\ArrAt w0 w' b f d fr n/\Below w.heap.size w w'
theorem zle {w0 w:World}{f:Fd}{d:Dt}{fs ds:List Value}(hf:FdAt w0 f fs)(hd:DAt (fun _=>True) w0 d ds) :
  Calls Tryz.prog 35 #[.agg fs.toArray,.agg ds.toArray,.pointer none] w (zi2 w0 w f d d.off d.len):=by
 obtain⟨fp,fc,rfl,-⟩:=hf.shape;obtain⟨bp,bc,kp,kc,dp,dc,rfl,-,-,-⟩:=hd.shape;have HF:=zh hf;have HD:=zh hd;clear hf hd;obtain⟨W,hW,a1,a2,hBW⟩:=zbt w 26 (f7 f fp fc) 46 (d6 d bp bc kp kc dp dc);have hws:W.heap.size=w.heap.size+1+1:=by rw[hW,World.size_alloc,World.size_alloc]
 have HWS:=zh hws;have HBW:=zh hBW;have HW:=zh hW;have hs0:RowAt W.drew w.heap.size (f7 f fp fc)/\RowAt W.drew (w.heap.size+1) (d6 d bp bc kp kc dp dc):=⟨a1.row,a2.row⟩;have HS0:=zh hs0;clear a1 a2 hBW hW hs0 hws;obtain⟨fam,hfam⟩:∃fam,Value.iface fam (.agg #[])=zdS f.k:=⟨_,rfl⟩;have HFAM:=zh hfam;clear hfam
 go_in
 go_wp2_with fail;rw[<-HW.o];clear HW;refine Late.region (fun w'=>RowAt w' w.heap.size (f7 f fp fc)/\RowAt w' (w.heap.size+1) (d6 d bp bc kp kc dp dc)) (fun _=>false) (by kernel_rfl) ?_;refine Late.ta (i:=0) (v:=?_) ?_ HS0.o ?_;rotate_left
 ·intro w' hS;have p0:=hS.1 0 _ rfl;have p1:=hS.1 1 _ rfl;have p2:=hS.1 2 _ rfl;have p3:=hS.1 3 _ rfl;have p4:=hS.1 4 _ rfl;have p5:=hS.1 5 _ rfl;have p6:=hS.1 6 _ rfl;clear hS;go_simp;rfl
 refine Late.ta (i:=1) (v:=?_) ?_ HS0.o ?_;rotate_left
 ·intro w' hS;have r0:=hS.2 0 _ rfl;have r1:=hS.2 1 _ rfl;have r2:=hS.2 2 _ rfl;have r3:=hS.2 3 _ rfl;have r4:=hS.2 4 _ rfl;have r5:=hS.2 5 _ rfl;clear hS;go_simp;rfl
 refine Late.ta (i:=2) (v:=?_) ?_ HS0.o ?_;rotate_left
 ·intro w' hS;clear hS;go_simp;rfl
 refine Late.ta (i:=3) (v:=?_) ?_ HS0.o ?_;rotate_left
 ·intro w' hS;have r0:=hS.2 0 _ rfl;have r1:=hS.2 1 _ rfl;have r2:=hS.2 2 _ rfl;have r3:=hS.2 3 _ rfl;have r4:=hS.2 4 _ rfl;have r5:=hS.2 5 _ rfl;clear hS;go_simp;rfl
 refine Late.ta (i:=4) (v:=?_) ?_ HS0.o ?_;rotate_left
 ·intro w' hS;clear hS;go_simp;rfl
 refine Late.ta (i:=5) (v:=?_) ?_ HS0.o ?_;rotate_left
 ·intro w' hS;have r0:=hS.2 0 _ rfl;have r1:=hS.2 1 _ rfl;have r2:=hS.2 2 _ rfl;have r3:=hS.2 3 _ rfl;have r4:=hS.2 4 _ rfl;have r5:=hS.2 5 _ rfl;clear hS;go_simp;rfl
 refine Late.ta (i:=6) (v:=?_) ?_ HS0.o ?_;rotate_left
 ·intro w' hS;clear hS;go_simp;rfl
 refine Late.ta (i:=7) (v:=?_) ?_ HS0.o ?_;rotate_left
 ·intro w' hS;clear hS;go_simp;rfl
 refine Late.ta (i:=8) (v:=?_) ?_ HS0.o ?_;rotate_left
 ·intro w' hS;clear hS;go_simp;rfl
 refine Late.ta (i:=9) (v:=?_) ?_ HS0.o ?_;rotate_left
 ·intro w' hS;have p0:=hS.1 0 _ rfl;have p1:=hS.1 1 _ rfl;have p2:=hS.1 2 _ rfl;have p3:=hS.1 3 _ rfl;have p4:=hS.1 4 _ rfl;have p5:=hS.1 5 _ rfl;have p6:=hS.1 6 _ rfl;clear hS;go_simp;rfl
 refine Late.on (i:=10) fun K hK=>?_;go_simp;refine(zho f.k _).mono ?_;rintro e W2 ⟨rfl,rfl⟩;rw[<-HFAM.o];refine hK _ _ (fun _=>HS0.o) ?_;clear hK K;refine Late.on (i:=11) fun K hK=>?_;go_simp;refine hK _ _ (fun _=>HS0.o) ?_;clear hK K;refine Late.on (i:=12) fun K hK=>?_;go_simp;have hq:=HS0.o;refine hK _ _ (fun _=>⟨hq.1.alloc _,hq.2.alloc _⟩) ?_;clear hK K hq;refine Late.on (i:=13) fun K hK=>?_;go_simp;have hq:=HS0.o;refine hK _ _ (fun _=>⟨hq.1.alloc _,hq.2.alloc _⟩) ?_;clear hK K hq;refine Late.done (by kernel_rfl) ?_ _;go_wp2_with fail;go_ret;refine⟨_,rfl,?_,⟨fp,fc,bp,bc,kp,kc,dp,dc,?_,HF.o,HD.o⟩,?_⟩
 ·have:=HWS.o;show w.heap.size<=W.heap.size;omega
 ·unfold zdt;rw[<-HFAM.o];exact BoxN.new W 115 _
 ·exact(zaf HBW.o).alloc (show w.heap.size<=W.drew.heap.size by have:=HWS.o;show w.heap.size<=W.heap.size;omega) _
theorem zlf {fn:Func}{i j:Nat}(hfn:fn.results=#[.tmp i,.cell j 69]){W:World}{tmps:Array Value}{rb:Nat}{u c0 c1 c2:Value}(hu:tmps.getD i undef=u)(ht:tmps.getD j undef=.pointer (some ⟨rb,0,none⟩))(hw:RowAt W rb [c0,c1,c2]) :
  (results fn tmps).run Tryz.prog W=.ok (.tuple #[u,.agg #[c0,c1,c2]]) W:=by
 have h0:=hw 0 _ rfl;have h1:=hw 1 _ rfl;have h2:=hw 2 _ rfl;rw[Array.getD_eq_getD_getElem?] at ht hu;simp[results,hfn,go_sem,ht,hu,h0,h1,h2]
theorem zop {W:World}{b:Nat}{t:TypeId}{c0 c1 c2:Value}(h:BoxN W b t [c0,c1,c2]):Below W.heap.size W (((W.setCell ⟨b,0,none⟩ c0).setCell ⟨b,1,none⟩ c1).setCell ⟨b,2,none⟩ c2):=
 ⟨rfl,rfl,rfl,by simp,fun k hk=>by
  by_cases e:k=b
  ·subst e;exact(show _=_ from zak rfl h c0 c1 c2).trans (show _=_ from h).symm
  ·rw[Below.heap_setCell _ _ _ k e,Below.heap_setCell _ _ _ k e,Below.heap_setCell _ _ _ k e]⟩
def zrx (w0 w:World)(l:List Dt)(e:Ending)(w':World):Prop:=∃p c,e=.returned (.slice p l.length c)/\M.At (fun _=>True) w0 (.many 6 (l.map dtR)) (.slice p l.length c)/\Below w.heap.size w w'
theorem zlg {w0 w:World}{d:Dt}{ds:List Value}(hd:DAt (fun _=>True) w0 d ds):Calls Tryz.prog 67 #[.agg ds.toArray] w (zrx w0 w (zac d)):=by
 obtain⟨bp,bc,kp,kc,dp,dc,rfl,-,hk,hdd⟩:=hd.shape;have HK:=zh hk;have HD:=zh hdd;clear hk hdd hd;have hB:Below w.heap.size w (w.alloc (.cells #[.int .i64 d.len,.int .i64 d.off,.int .i64 d.nul,.slice bp d.bufs.length bc,.slice kp d.kids.length kc,.slice dp d.dict.length dc] 46)):=(Below.refl _ w).alloc (Nat.le_refl _) _;have HB:=zh hB;clear hB;by_cases h:0<d.dict.length
 ·have HE:=zh (show zac d=d.dict from if_pos h)
  go_in
  go_wp2_with fail;rw[HE.o];go_ret;exact⟨_,_,rfl,HD.o,HB.o⟩
 ·have HE:=zh (show zac d=d.kids from if_neg h)
  go_in
  go_wp2_with fail;rw[HE.o];go_ret;exact⟨_,_,rfl,HK.o,HB.o⟩
def FdB (w0 w:World)(g:Fd)(e:Ending)(w':World):Prop:=∃p cap,e=.returned (.agg #[.string g.nm,.bool g.nl,.int .i64 g.k,.int .i64 g.wd,.int .i64 g.id,.int .i64 g.ix,.slice p g.kids.length cap])/\FdAt w0 g (f7 g p cap)/\Below w.heap.size w w'
theorem ziz {fn:Func}{i:Nat}(hfn:fn.results=#[.cell i 26]){w0 w W:World}{rb:Nat}{g:Fd}{p:Option Addr}{cap:Nat}(hbx:BoxN W rb 26 (f7 g p cap))
  (hg:FdAt w0 g (f7 g p cap)) (hB:Below w.heap.size w W)
  {tmps:Array Value} (ht:tmps.getD i undef=.pointer (some ⟨rb,0,none⟩)):bodyPost Tryz.prog fn (FdB w0 w g) Exit.ret { tmps:=tmps,defers:=[] } W:=
 bodyPost_ret (ziT hfn ht hbx.row) rfl ⟨p,cap,rfl,hg,hB⟩
theorem zpE (w:World):FdAt w endsF [.string endsF.nm,.bool endsF.nl,.int .i64 endsF.k,.int .i64 endsF.wd,.int .i64 endsF.id,.int .i64 endsF.ix,.slice none 0 0]:=by
 simp only[FdAt,endsF];exact⟨by decide,⟨by decide,by decide⟩,⟨by decide,by decide⟩,⟨by decide,by decide⟩,⟨by decide,by decide⟩,none,0,rfl,Nat.le_refl _,Nat.zero_le _,trivial⟩
theorem zlh {w0 w:World}(hb0:Below w0.heap.size w0 w){f:Fd}{fs:List Value}(hf:FdAt w0 f fs)(k:Nat)(hk:(f.k=20->k=0\/0<f.kids.length)/\(f.k≠20->k<f.kids.length)):Calls Tryz.prog 68 #[.agg fs.toArray,.int .i64 k] w (FdB w0 w (zat f k)):=by
 obtain⟨fp,fc,rfl,hL,-⟩:=hf.shape;obtain⟨_,_,e,hr1,hr2,hC⟩:=hL;cases e;have HC:=zh hC;have HB0:=zh hb0;unfold maxLen at hr2;have hB:Below w.heap.size w (w.alloc (.cells #[.string f.nm,.bool f.nl,.int .i64 f.k,.int .i64 f.wd,.int .i64 f.id,.int .i64 f.ix,.slice fp f.kids.length fc] 26)):=(Below.refl _ w).alloc (Nat.le_refl _) _;have HB:=zh hB;have hsz:(w.alloc (.cells #[.string f.nm,.bool f.nl,.int .i64 f.k,.int .i64 f.wd,.int .i64 f.id,.int .i64 f.ix,.slice fp f.kids.length fc] 26)).heap.size=w.heap.size+1:=World.size_alloc _ _;have HSZ:=zh hsz;clear hf hC hB hsz hb0;cases q20:(f.k == 20) with
 | true=>
  have e20:f.k=20:=by simpa using q20
  cases qk:((k:Int) == 0) with
  | true=>
   have ek:k=0:=by have:(k:Int)=0:=(by simpa using qk);omega
   have HE:=zh (show zat f k=endsF by unfold zat;rw[if_pos e20,if_pos ek]);clear e20 ek hk
   go_in
   go_wp2_with fail;rw[HE.o];exact ziz (i:=4) (g:=endsF) (p:=none) (cap:=0) rfl (BoxN.new' HSZ.o _ _) (zpE w0) (HB.o.alloc HB.o.size _) rfl
  | false=>
   have ek:k≠0:=by
    intro e;subst e;simp at qk
   have h0:0<f.kids.length:=by rcases hk.1 e20 with e|e <;> first|exact e|exact absurd e ek
   have HE:=zh (show zat f k=f.kids[0] by unfold zat;rw[if_pos e20,if_neg ek,List.getElem?_eq_getElem h0];rfl);obtain⟨b,o,p1,c1,rfl,g1,s0,s1,s2,s3,s4,s5,s6⟩:=HC.o.seven 0 h0;simp only[Nat.zero_mul,Nat.add_zero] at s0 s1 s2 s3 s4 s5 s6;have G1:=zh g1;replace s0:=zaa HB0.o s0;replace s1:=zaa HB0.o s1;replace s2:=zaa HB0.o s2;replace s3:=zaa HB0.o s3;replace s4:=zaa HB0.o s4;replace s5:=zaa HB0.o s5;replace s6:=zaa HB0.o s6;have hblk:=World.block_lt_of_cell? w _ s0;simp only at hblk;rw[HE.o];have h0z:(0:Int)<(f.kids.length:Int):=by omega
   generalize f.kids[0]=g at *;clear e20 ek hk h0 HE g1
   go_in
   go_wp2_with fail;exact ziz (i:=4) rfl (BoxN.new' HSZ.o _ _) G1.o (HB.o.alloc HB.o.size _) rfl
 | false=>
  have e20:f.k≠20:=by simpa using q20
  have h0:k<f.kids.length:=hk.2 e20;have HE:=zh (show zat f k=f.kids[k] by unfold zat;rw[if_neg e20,List.getElem?_eq_getElem h0];rfl);obtain⟨b,o,p1,c1,rfl,g1,s0,s1,s2,s3,s4,s5,s6⟩:=HC.o.seven k h0;have G1:=zh g1;replace s0:=zaa HB0.o s0;replace s1:=zaa HB0.o s1;replace s2:=zaa HB0.o s2;replace s3:=zaa HB0.o s3;replace s4:=zaa HB0.o s4;replace s5:=zaa HB0.o s5;replace s6:=zaa HB0.o s6;have hblk:=World.block_lt_of_cell? w _ s0;simp only at hblk;rw[HE.o];generalize f.kids[k]=g at *;clear e20 hk HE g1
  go_in
  go_wp2_with fail;exact ziz (i:=4) rfl (BoxN.new' HSZ.o _ _) G1.o (HB.o.alloc HB.o.size _) rfl
theorem zdT {w0 w:World}(hb0:Below w0.heap.size w0 w){ab:Nat}{f:Fd}{d:Dt}{fr n:Int}(hA:ArrAt w0 w ab f d fr n)(k:Nat)(hk:(f.k=20->k=0\/0<f.kids.length)/\(f.k≠20->k<f.kids.length))(hkd:k<(zac d).length) :
  Calls Tryz.prog 225 #[.pointer (some ⟨ab,0,none⟩),.int .i64 k] w (zi2 w0 w (zat f k) (zac d)[k] (zac d)[k].off (zac d)[k].len):=by
 obtain⟨fp,fc,bp,bc,kp,kc,dp,dc,hbx,hf,hd⟩:=hA.at';unfold zdt at hbx;have hs0:RowAt w.drew ab _:=hbx.row;obtain⟨fam,hfam⟩:∃fam,Value.iface fam (.agg #[])=zdS f.k:=⟨_,rfl⟩;rw[<-hfam] at hs0;have HS0:=zh hs0;have HF:=zh hf;have HD:=zh hd;have HB0:=zh hb0;have HK:=zh hk;have hlt:=hbx.lt;clear hA hbx hf hd hb0 hs0 hfam hk
 go_in
 go_wp2_with fail;refine Late.region (fun w'=>RowAt w' ab [.string f.nm,.bool f.nl,.int .i64 f.k,.int .i64 f.wd,.int .i64 f.id,.int .i64 f.ix,.slice fp f.kids.length fc,.int .i64 d.len,.int .i64 d.off,.int .i64 d.nul,.slice bp d.bufs.length bc,.slice kp d.kids.length kc,.slice dp d.dict.length dc,.int .i64 fr,.int .i64 n,.pointer none,.iface fam (.agg #[])]) (fun _=>false) (by kernel_rfl) ?_;refine Late.ta (i:=0) (v:=?_) ?_ HS0.o ?_;rotate_left
 ·intro w' hS;clear hS;go_simp;rfl
 refine Late.ta (i:=1) (v:=?_) ?_ HS0.o ?_;rotate_left
 ·intro w' hS;clear hS;go_simp;rfl
 refine Late.ta (i:=2) (v:=?_) ?_ HS0.o ?_;rotate_left
 ·intro w' hS;clear hS;go_simp;rfl
 refine Late.ta (i:=3) (v:=?_) ?_ HS0.o ?_;rotate_left
 ·intro w' hS;have p0:=hS 0 _ rfl;have p1:=hS 1 _ rfl;have p2:=hS 2 _ rfl;have p3:=hS 3 _ rfl;have p4:=hS 4 _ rfl;have p5:=hS 5 _ rfl;have p6:=hS 6 _ rfl;clear hS;go_simp;rfl
 refine Late.ta (i:=4) (v:=?_) ?_ HS0.o ?_;rotate_left
 ·intro w' hS;clear hS;go_simp;rfl
 refine Late.ta (i:=6) (v:=?_) ?_ HS0.o ?_;rotate_left
 ·intro w' hS;clear hS;go_simp;rfl
 refine Late.ta (i:=7) (v:=?_) ?_ HS0.o ?_;rotate_left
 ·intro w' hS;clear hS;go_simp;rfl
 refine Late.ta (i:=8) (v:=?_) ?_ HS0.o ?_;rotate_left
 ·intro w' hS;clear hS;go_simp;rfl
 refine Late.ta (i:=9) (v:=?_) ?_ HS0.o ?_;rotate_left
 ·intro w' hS;have p7:=hS 7 _ rfl;have p8:=hS 8 _ rfl;have p9:=hS 9 _ rfl;have p10:=hS 10 _ rfl;have p11:=hS 11 _ rfl;have p12:=hS 12 _ rfl;clear hS;go_simp;rfl
 refine Late.ta (i:=11) (v:=?_) ?_ HS0.o ?_;rotate_left
 ·intro w' hS;clear hS;go_simp;rfl
 refine Late.ta (i:=14) (v:=?_) ?_ HS0.o ?_;rotate_left
 ·intro w' hS;clear hS;go_simp;rfl
 refine Late.ta (i:=15) (v:=?_) ?_ HS0.o ?_;rotate_left
 ·intro w' hS;clear hS;go_simp;rfl
 refine Late.ta (i:=16) (v:=?_) ?_ HS0.o ?_;rotate_left
 ·intro w' hS;clear hS;go_simp;rfl
 refine Late.ta (i:=17) (v:=?_) ?_ HS0.o ?_;rotate_left
 ·intro w' hS;have p15:=hS 15 _ rfl;clear hS;go_simp;rfl
 refine Late.on (i:=5) fun K hK=>?_;go_simp;refine(zlh (zaf HB0.o) HF.o k HK.o).mono ?_;rintro e W2 ⟨p2,c2,rfl,hfd,hb2⟩;have HF2:=zh hfd;have HS2:=zh (HS0.o.below hb2);have HB2:=zh ((zaf (Below.refl _ w)).trans (hb2.mono (Nat.le_refl _)));have HBz:=zh ((zaf HB0.o).trans (hb2.mono (zaf HB0.o).size));clear hfd hb2;refine hK _ _ (fun _=>HS2.o) ?_;clear hK K;refine Late.on (i:=10) fun K hK=>?_;go_simp;refine(zlg HD.o).mono ?_;rintro e W3 ⟨p3,c3,rfl,hdl,hb3⟩;obtain⟨pb,po,b3p,b3c,k3p,k3c,d3p,d3c,rfl,-,t0,t1,t2,t3,t4,t5,hrow⟩:=zci hdl k hkd;obtain⟨-,hl1,hl2⟩:=zam hdl;unfold maxLen at hl2;simp only[List.length_map] at hl1;have HS3:=zh (HS2.o.below hb3);have HBz3:=zh (HBz.o.trans (hb3.mono HBz.o.size));have HB3:=zh (HB2.o.trans (hb3.mono HB2.o.size));replace t0:=zaa HBz3.o t0;replace t1:=zaa HBz3.o t1;replace t2:=zaa HBz3.o t2;replace t3:=zaa HBz3.o t3;replace t4:=zaa HBz3.o t4;replace t5:=zaa HBz3.o t5;have HR:=zh hrow;clear hdl hb3 hrow;refine hK _ _ (fun _=>HS3.o) ?_;clear hK K;refine Late.on (i:=12) fun K hK=>?_;go_simp;refine hK _ _ (fun _=>HS3.o) ?_;clear hK K;refine Late.on (i:=13) fun K hK=>?_;go_simp;refine hK _ _ (fun _=>HS3.o) ?_;clear hK K t0 t1 t2 t3 t4 t5;refine Late.on (i:=18) fun K hK=>?_;go_simp;refine(zle HF2.o HR.o).mono ?_;rintro e W4 ⟨b4,rfl,hn4,hA4,hb4⟩;have HA4:=zh hA4;have HS4:=zh (HS3.o.below hb4);have HB4:=zh (HB3.o.trans (hb4.mono HB3.o.size));have HN4:=zh (Nat.le_trans HB3.o.size hn4);clear hA4 hb4 hn4;refine hK _ _ (fun _=>HS4.o) ?_;clear hK K;refine Late.on (i:=19) fun K hK=>?_;go_simp;refine hK _ _ (fun _=>HS4.o) ?_;clear hK K;refine Late.done (by kernel_rfl) ?_ _;go_wp2_with fail;go_ret;exact⟨b4,rfl,HN4.o,HA4.o,HB4.o⟩
theorem DAt.bufsAt {S:Nat->Prop}{w:World}{d:Dt}{bp:Option Addr}{bc:Nat}{kp:Option Addr}{kc:Nat}{dp:Option Addr}{dc:Nat}(h:DAt S w d (d6 d bp bc kp kc dp dc)):M.At S w (zeu d.bufs) (.slice bp d.bufs.length bc):=by
 obtain⟨_,_,_,_,_,_,e,hbu,-,-⟩:=h.shape;cases e;exact hbu
theorem DAt.kidsAt {S:Nat->Prop}{w:World}{d:Dt}{bp:Option Addr}{bc:Nat}{kp:Option Addr}{kc:Nat}{dp:Option Addr}{dc:Nat}(h:DAt S w d (d6 d bp bc kp kc dp dc)):M.At S w (.many 6 (d.kids.map dtR)) (.slice kp d.kids.length kc):=by
 obtain⟨_,_,_,_,_,_,e,-,hk,-⟩:=h.shape;cases e;exact hk
theorem DAt.dictAt {S:Nat->Prop}{w:World}{d:Dt}{bp:Option Addr}{bc:Nat}{kp:Option Addr}{kc:Nat}{dp:Option Addr}{dc:Nat}(h:DAt S w d (d6 d bp bc kp kc dp dc)):M.At S w (.many 6 (d.dict.map dtR)) (.slice dp d.dict.length dc):=by
 obtain⟨_,_,_,_,_,_,e,-,-,hk⟩:=h.shape;cases e;exact hk
def zj4 (w0 w:World)(s:ByteArray)(e:Ending)(w':World):Prop:=∃q c,e=.returned (zcj q s.size)/\M.At (fun _=>True) w0 (zby s) (.slice q s.size c)/\Below w.heap.size w w'
theorem znk {fn:Func}{i:Nat}(hfn:fn.results=#[.cell i 202]){w0 w W:World}{rb c:Nat}{q:Option Addr}{s:ByteArray}(hbx:BoxN W rb 202 [.slice q s.size s.size,.int .i64 0,.pointer none])(hs:M.At (fun _=>True) w0 (zby s) (.slice q s.size c))(hB:Below w.heap.size w W)
  {tmps:Array Value} (ht:tmps.getD i undef=.pointer (some ⟨rb,0,none⟩)):bodyPost Tryz.prog fn (zj4 w0 w s) Exit.ret { tmps:=tmps,defers:=[] } W:=
 bodyPost_ret (zk0 hfn ht hbx.row) rfl ⟨q,c,rfl,hs,hB⟩
theorem zcg {w0 w:World}(hb0:Below w0.heap.size w0 w){ab:Nat}{f:Fd}{d:Dt}{fr n:Int}(hA:ArrAt w0 w ab f d fr n)(k:Nat)(hk:k<d.bufs.length) :
  Calls Tryz.prog 106 #[.pointer (some ⟨ab,0,none⟩),.int .i64 k] w (zj4 w0 w d.bufs[k]):=by
 obtain⟨fp,fc,bp,bc,kp,kc,dp,dc,hbx,hf,hd⟩:=hA.at';unfold zdt at hbx;obtain⟨fam,hfam⟩:∃fam,Value.iface fam (.agg #[])=zdS f.k:=⟨_,rfl⟩;rw[<-hfam] at hbx;clear hfam;have hbu:=DAt.bufsAt hd;obtain⟨-,hl1,hl2⟩:=zam hbu;simp only[List.length_map] at hl1;unfold maxLen at hl2;obtain⟨bb,bo,q,c,rfl,-,x0,hby⟩:=zbI hbu k hk;obtain⟨⟨-,hs1,hs2⟩,-⟩:=zaZ hby;have HOF:=zh (zpr q d.bufs[k].size c hs1 hs2);have hx:=zaa hb0 x0;have hbl:=World.block_lt_of_cell? w _ hx;simp only at hbl;have HB0:=zh hb0;have HBY:=zh hby;have hlt:=hbx.lt;obtain⟨W1,hW,a1,hBW⟩:=zao w 202 [.slice none 0 0,.int .i64 0,.pointer none];have hs0:RowAt W1.drew ab [.string f.nm,.bool f.nl,.int .i64 f.k,.int .i64 f.wd,.int .i64 f.id,.int .i64 f.ix,.slice fp f.kids.length fc,.int .i64 d.len,.int .i64 d.off,.int .i64 d.nul,.slice (some ⟨bb,bo,none⟩) d.bufs.length bc,.slice kp d.kids.length kc,.slice dp d.dict.length dc,.int .i64 fr,.int .i64 n,.pointer none,.iface fam (.agg #[])]/\W1.drew.cell? ⟨bb,bo+k,none⟩=some (.slice q d.bufs[k].size c):=⟨(hbx.below hBW hbx.lt).row,zaa hBW hx⟩;have HS0:=zh hs0;have A1:=zh a1;have HBW:=zh hBW;have HW:=zh hW;clear hA hbx hf hd hb0 hs0 hbu hby x0 hx a1 hBW hW;generalize d.bufs[k]=s at *
 go_in
 go_wp2_with fail;rw[<-HW.o];clear HW;obtain⟨V,hV⟩:=nm (W1.drew);have HV:=zh (show Below w.heap.size w V by rw[hV];exact zaf HBW.o);have AV:=zh (show BoxN V w.heap.size 202 [.slice none 0 0,.int .i64 0,.pointer none] by rw[hV];exact A1.o);refine Late.region (fun w'=>RowAt w' ab [.string f.nm,.bool f.nl,.int .i64 f.k,.int .i64 f.wd,.int .i64 f.id,.int .i64 f.ix,.slice fp f.kids.length fc,.int .i64 d.len,.int .i64 d.off,.int .i64 d.nul,.slice (some ⟨bb,bo,none⟩) d.bufs.length bc,.slice kp d.kids.length kc,.slice dp d.dict.length dc,.int .i64 fr,.int .i64 n,.pointer none,.iface fam (.agg #[])]/\w'.cell? ⟨bb,bo+k,none⟩=some (.slice q s.size c)) (fun _=>false) (by kernel_rfl) ?_;rw[<-hV] at HS0 ⊢;clear hV;refine Late.ta (i:=0) (v:=?_) ?_ HS0.o ?_;rotate_left
 ·intro w' hS;clear hS;go_simp;rfl
 refine Late.ta (i:=1) (v:=?_) ?_ HS0.o ?_;rotate_left
 ·intro w' hS;clear hS;go_simp;rfl
 refine Late.ta (i:=2) (v:=?_) ?_ HS0.o ?_;rotate_left
 ·intro w' hS;clear hS;go_simp;rfl
 refine Late.ta (i:=3) (v:=?_) ?_ HS0.o ?_;rotate_left
 ·intro w' hS;clear hS;go_simp;rfl
 refine Late.ta (i:=4) (v:=?_) ?_ HS0.o ?_;rotate_left
 ·intro w' hS;have p10:=hS.1 10 _ rfl;clear hS;go_simp;rfl
 refine Late.ta (i:=5) (v:=?_) ?_ HS0.o ?_;rotate_left
 ·intro w' hS;clear hS;go_simp;rfl
 refine Late.ta (i:=6) (v:=?_) ?_ HS0.o ?_;rotate_left
 ·intro w' hS;clear hS;go_simp;rfl
 refine Late.ta (i:=7) (v:=?_) ?_ HS0.o ?_;rotate_left
 ·intro w' hS;have p1:=hS.2;clear hS;go_simp;rfl
 refine Late.ta (i:=9) (v:=?_) ?_ HS0.o ?_;rotate_left
 ·intro w' hS;clear hS;go_simp;rfl
 refine Late.ta (i:=10) (v:=?_) ?_ HS0.o ?_;rotate_left
 ·intro w' hS;clear hS;go_simp;rfl
 refine Late.ta (i:=11) (v:=?_) ?_ HS0.o ?_;rotate_left
 ·intro w' hS;clear hS;go_simp;rfl
 refine Late.ta (i:=12) (v:=?_) ?_ HS0.o ?_;rotate_left
 ·intro w' hS;have p15:=hS.1 15 _ rfl;clear hS;go_simp;rfl
 refine Late.on (i:=8) fun K hK=>?_;go_simp;refine(HOF.o _).mono ?_;rintro e W2 ⟨rfl,hb2⟩;have HB2:=zh hb2;have HS2:=zh (And.intro (HS0.o.1.below hb2) (zaa hb2 HS0.o.2));have A2:=zh (AV.o.below hb2 AV.o.lt);have HV2:=zh (HV.o.trans (hb2.mono HV.o.size));clear hb2;refine hK _ _ (fun _=>HS2.o) ?_;clear hK K;refine Late.on (i:=13) fun K hK=>?_;go_simp;refine(zkt q s.size _).mono ?_;rintro e W3 ⟨rfl,hb3⟩;have HS3:=zh (And.intro (HS2.o.1.below hb3) (zaa hb3 HS2.o.2));have a3:=A2.o.below hb3 A2.o.lt;have A3:=zh a3;have HV3:=zh (HV2.o.trans (hb3.mono HV2.o.size));obtain⟨q0,q1,q2⟩:=Fld.rr3 a3.row;obtain⟨z0,z1,z2⟩:=ff3 a3;have hl3:=a3.lt;clear hb3 a3;refine hK _ _ (fun _=>HS3.o) ?_;clear hK K;unfold zcj;refine Late.on (i:=14) fun K hK=>?_;go_simp;have hne:ab≠w.heap.size:=by omega
 have hne2:bb≠w.heap.size:=by omega
 have hq:=And.intro (zbi (zbi (zbi HS3.o.1 hne 0 (.slice q s.size s.size)) hne 1 (.int .i64 0)) hne 2 (.pointer none))
  ((World.cell?_of_block (show _=_ from(Below.heap_setCell _ _ _ bb hne2).trans ((Below.heap_setCell _ _ _ bb hne2).trans (Below.heap_setCell _ _ _ bb hne2)))).trans HS3.o.2:((((W3.setCell ⟨w.heap.size,0,none⟩ (.slice q s.size s.size)).setCell ⟨w.heap.size,1,none⟩ (.int .i64 0)).setCell ⟨w.heap.size,2,none⟩ (.pointer none)).cell? ⟨bb,bo+k,none⟩=some (.slice q s.size c)))
 refine hK _ _ (fun _=>hq) ?_;clear hK K hq;refine Late.done (by kernel_rfl) ?_ _;go_wp2_with fail;exact znk (i:=4) rfl (zak rfl A3.o _ _ _) HBY.o (zae HV3.o (Nat.le_refl _) _ _ _) rfl
theorem zoq {k:Int}{l:List ByteArray}{r:Nat}(h1:k≠1)(hv:zbX k=true)(h0:0<l.length):zaF k l r=if l[0].size=0 then false else !(if r / 8<l[0].size then zis l[0] r else false):=by
 unfold zaF;rw[if_neg h1,if_neg (by rw[hv];decide)];cases l with
 | nil=>cases h0
 | cons u t=>rfl
set_option maxRecDepth 100000 in
theorem zpF:∀X:Fin 256,bits .and .u8 ((X.val:Nat):Int) 1=0\/bits .and .u8 ((X.val:Nat):Int) 1=1:=by decide
theorem zq4 {x:Int}(h:0<=x/\x<256)(j:Nat):bits BinOp.and IntKind.u8 (x / 2 ^ j) 1=0\/bits BinOp.and IntKind.u8 (x / 2 ^ j) 1=1:=by
 have h1:0<=x / 2 ^ j:=Int.ediv_nonneg h.1 (Int.le_of_lt (Int.pow_pos (by decide)));have h2:x / 2 ^ j<=x:=Int.ediv_le_self _ h.1;obtain⟨m,hm⟩:=Int.eq_ofNat_of_zero_le h1;have hm2:m<256:=by omega
 rw[hm];exact zpF ⟨m,hm2⟩
theorem zli {w0 w:World}(hb0:Below w0.heap.size w0 w){ab:Nat}{f:Fd}{d:Dt}{fr n:Int}(hA:ArrAt w0 w ab f d fr n)(hs:zbX f.k=true->0<d.bufs.length)(r:Nat)(hr:r<=1000000) :
  Calls Tryz.prog 91 #[.pointer (some ⟨ab,0,none⟩),.int .i64 r] w (zaM w (.bool (zaF f.k d.bufs r))):=by
 have HA:=zh hA;have HB0:=zh hb0;obtain⟨fp,fc,bp,bc,kp,kc,dp,dc,hbx,hf,hd⟩:=hA.at';unfold zdt at hbx;obtain⟨fam,hfam⟩:∃fam,Value.iface fam (.agg #[])=zdS f.k:=⟨_,rfl⟩;rw[<-hfam] at hbx;clear hfam;have hbu:=DAt.bufsAt hd;obtain⟨-,hl1,hl2⟩:=zam hbu;simp only[List.length_map] at hl1;unfold maxLen at hl2;have p2:=hbx.row 2 _ rfl;have p10:=hbx.row 10 _ rfl;have hlt:=hbx.lt;have HBU:=zh hbu;have HS:=zh hs;clear hA hb0 hbx hf hd hbu hs;by_cases hk:f.k=1
 ·have HE:=zh (show zaF f.k d.bufs r=true by unfold zaF;rw[if_pos hk]);have q:(f.k == 1)=true:=by simpa using hk
  rw[HE.o];clear hk
  go_in
  go_wp2_with fail;go_ret;exact⟨rfl,Below.refl _ _⟩
 have q:(f.k == 1)=false:=by simpa using hk
 cases hv:zbX f.k with
 | false=>
  have HE:=zh (show zaF f.k d.bufs r=false by unfold zaF;rw[if_neg hk,if_pos hv]);rw[HE.o];have HV:=zh hv;clear hk hv
  go_in
  go_wp2_with fail;refine(zcX f.k w).mono ?_;rintro e W2 ⟨rfl,rfl⟩;rw[HV.o];go_wp2_with fail;go_ret;exact⟨rfl,Below.refl _ _⟩
 | true=>
 have h0:=HS.o hv;obtain⟨bb,bo,q',c,rfl,-,x0,hby⟩:=zbI HBU.o 0 h0;rw[Nat.add_zero] at x0;have hx:=zaa HB0.o x0;have HE:=zh (zoq (r:=r) hk hv h0);rw[HE.o];have HV:=zh hv;have HBY:=zh (zcg HB0.o HA.o 0 h0);obtain⟨⟨-,hs1,hs2⟩,-⟩:=zaZ hby;unfold maxLen at hs2;have h0z:(0:Int)<(d.bufs.length:Int):=by omega
 generalize d.bufs[0]=s at *;clear hk hv HE x0 hby h0;by_cases hz:s.size=0
 ·rw[if_pos hz];have q2:((s.size:Int) == 0)=true:=by simp[hz]
  clear hz
  go_in
  go_wp2_with fail;refine(zcX f.k w).mono ?_;rintro e W2 ⟨rfl,rfl⟩;rw[HV.o];go_wp2_with fail;go_ret;exact⟨rfl,Below.refl _ _⟩
 ·rw[if_neg hz];have q2:((s.size:Int) == 0)=false:=beq_eq_false_iff_ne.2 (by omega);clear hz;obtain⟨bt,hbt⟩:∃bt,zaq s (r / 8)=bt:=⟨_,rfl⟩;have hbb:=za1 s (r / 8);have hval:(!(if r / 8<s.size then zis s r else false))=(bits BinOp.and IntKind.u8 (bt / 2 ^ (r % 8)) 1 == 0):=by
   rw[<-hbt];by_cases hr2:r / 8<s.size
   ·rw[if_pos hr2];unfold zis;rcases zq4 hbb (r % 8) with e|e <;> rw[e] <;> rfl
   ·rw[if_neg hr2];have h0:zaq s (r / 8)=0:=by
     unfold zaq;rw[Array.getElem?_eq_none (by have:s.data.size=s.size:=rfl;omega)];rfl
    rw[h0,Int.zero_ediv];decide
  rw[hval];rw[hbt] at hbb;have HBT:=zh hbt;clear hval hbt
  go_in
  go_wp2_with fail;refine(zcX f.k w).mono ?_;rintro e W2 ⟨rfl,rfl⟩;rw[HV.o];go_wp2_with fail;refine HBY.o.mono ?_;rintro e W3 ⟨qq,cc,rfl,hat,hb3⟩;have HAT:=zh (M.At.below (HB0.o.trans (hb3.mono HB0.o.size)) hat);have HB3:=zh hb3;clear hat hb3;go_wp2_with fail;refine(zgt HAT.o (r / 8) (by omega)).mono ?_;rintro e W4 ⟨rfl,hb4⟩;rw[HBT.o];have HB4:=zh (HB3.o.trans (hb4.mono HB3.o.size));clear hb4;go_wp2_with fail;go_ret;exact⟨rfl,HB4.o⟩
end Go.Fld
namespace Go.Fld
open Go Go.RowKit Go.Proofs Go.ChangeShapes Go.WideShapes Go.ChangeAt Go.Shelf
structure TabsAt (w:World):Prop where
 s:SaysAt w
 v:SaysW w
 t:Lib.Utf8Tabs 1 2 w
end Go.Fld
