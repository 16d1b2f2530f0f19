import Derived.Test.YthocbeghnkacnaaGreatDoorT33
set_option linter.unusedVariables false
set_option linter.unusedSimpArgs false
set_option linter.unnecessarySimpa false
set_option maxRecDepth 100000
set_option maxHeartbeats 16000000
namespace Go.Fld
open Go Go.RowKit Go.Proofs Go.ChangeShapes Go.WideShapes Go.ChangeAt Go.Shelf Go.Fld.Late
def zf7 (w:World)(xb:Nat)(r:Prop)(wt left:Int)(e:Ending)(w':World):Prop:=∃(b:Bool) (y:Int),e=.returned (.bool b)/\w.grownBy w' (some xb)/\BoxN w' xb 265 [.int .i64 y]/\(b=true↔r/\wt<=left)/\(b=true->y=left-wt)
theorem zdj {w0 w w':World}{xb:Nat}(h:w.grownBy w' (some xb))(hb:Below w0.heap.size w0 w)(hf:w0.heap.size<=xb):Below w0.heap.size w0 w':=hb.grown h hb.size (fun k e=>by have:=Option.some.inj e;omega)
theorem zdI {t:ByteArray}(h:t.toList=[]):t.size=0:=by
 rw[ByteArray.toList_eq] at h;have:=congrArg List.length h;simpa using this
theorem zdJ {t:ByteArray}(h:¬t.toList=[]):¬t.size=0:=fun e=>h (by rw[ByteArray.toList_eq,zeU e])
theorem zaj (w:World)(n:Nat)(r:Option Nat):w.grownBy (w.drewN n) r:=Below.grownBy (zab (Below.refl _ w) n) r
theorem zdn (w:World){r:Option Nat}:w.grownBy w r:=⟨rfl,rfl,rfl,Nat.le_refl _,fun _ _ _=>rfl⟩
theorem zdK {w w':World}{r:Option Nat}(h:w.grownBy w' none):w.grownBy w' r:=⟨h.os,h.tape,h.output,h.size,fun i hi _=>h.block i hi (fun e=>by cases e)⟩
theorem zaw {w w':World}{b:Nat}{t:TypeId}{l:List Value}(hb:BoxN w b t l)(h:w.grownBy w' none):BoxN w' b t l:=hb.kept h (fun e=>by cases e)
theorem zrh (v:Vl):wtV v=16+v.tx.size+zaA v.kids:=by cases v;rw[wtV];rfl
theorem zmZ {v:Vl}(h:v.kids.length=1)(h0:0<v.kids.length):v.kids=[v.kids[0]]:=by
 refine List.ext_getElem (by rw[h];rfl) (fun i h1 h2=>?_);have:i=0:=by rw[h] at h1;omega
 subst this;rfl
theorem zmE {k n:Int}(h:zfe k=false):zdm k n=false:=by
 unfold zfe at h;simp only[Bool.and_eq_false_iff,decide_eq_false_iff_not] at h;unfold zdm;rw[if_neg (by omega),if_neg (by omega),if_neg (by omega),if_neg (by omega),if_neg (by omega),if_neg (by omega),decide_eq_false (by omega),decide_eq_false (by omega)];rfl
theorem zqW {v:Vl}{p:Vl->Bool}(h:v.kids.length=1)(h0:0<v.kids.length):(decide ((0:Nat)=0) && (true && (true && (decide ((1:Nat)=1) && v.kids.all p))))=p v.kids[0]:=by
 have e:=zmZ h h0;generalize v.kids[0]=u at *;rw[e];simp
theorem zoU {m:Nat}{f:Fd}{v:Vl}(hk:f.k=15):(decide ((0:Int)=0) && (decide ((0:Nat)=0) && v.kids.all (okN m (zan f 0))))=true↔(f.k=16->(v.kids.length:Int)=f.wd)/\(f.k=17->v.kids.length=f.kids.length)/\∀i (hi:i<v.kids.length),okN m (zan f (if f.k=17 then i else 0)) v.kids[i]=true:=by
 simp only[decide_true,Bool.true_and,List.all_eq_true];constructor
 ·intro h;refine⟨fun e=>by omega,fun e=>by omega,fun i hi=>?_⟩;rw[if_neg (by omega)];exact h _ (List.getElem_mem hi)
 ·rintro⟨-,-,h⟩ u hu;obtain⟨i,hi,e⟩:=List.getElem_of_mem hu;have:=h i hi
  rwa [if_neg (by omega),e] at this
theorem zoV {m:Nat}{f:Fd}{v:Vl}(hk:f.k=16):(decide ((0:Int)=0) && (decide ((0:Nat)=0) && (decide ((v.kids.length:Int)=f.wd) && v.kids.all (okN m (zan f 0)))))=true↔(f.k=16->(v.kids.length:Int)=f.wd)/\(f.k=17->v.kids.length=f.kids.length)/\∀i (hi:i<v.kids.length),okN m (zan f (if f.k=17 then i else 0)) v.kids[i]=true:=by
 simp only[decide_true,Bool.true_and,List.all_eq_true,Bool.and_eq_true,decide_eq_true_eq];constructor
 ·rintro⟨h1,h⟩;refine⟨fun e=>h1,fun e=>by omega,fun i hi=>?_⟩;rw[if_neg (by omega)];exact h _ (List.getElem_mem hi)
 ·rintro⟨h1,-,h⟩;refine⟨h1 hk,fun u hu=>?_⟩;obtain⟨i,hi,e⟩:=List.getElem_of_mem hu;have:=h i hi
  rwa [if_neg (by omega),e] at this
theorem zmF {m:Nat}{f:Fd}{v:Vl}(hk:f.k=17):(decide ((0:Int)=0) && (decide ((0:Nat)=0) && (decide (v.kids.length=f.kids.length) && (List.range v.kids.length).all fun i=>okN m (zan f i) ((v.kids[i]?).getD v))))=true↔(f.k=16->(v.kids.length:Int)=f.wd)/\(f.k=17->v.kids.length=f.kids.length)/\∀i (hi:i<v.kids.length),okN m (zan f (if f.k=17 then i else 0)) v.kids[i]=true:=by
 simp only[decide_true,Bool.true_and,List.all_eq_true,Bool.and_eq_true,decide_eq_true_eq,List.mem_range];constructor
 ·rintro⟨h1,h⟩;refine⟨fun e=>by omega,fun e=>h1,fun i hi=>?_⟩;rw[if_pos hk];have:=h i hi
  rwa [List.getElem?_eq_getElem hi] at this
 ·rintro⟨-,h1,h⟩;refine⟨h1 hk,fun i hi=>?_⟩;have:=h i hi;rw[if_pos hk] at this
  rwa [List.getElem?_eq_getElem hi]
def znK (m:Nat):Prop:=∀(inD:Bool) (f:Fd) (v:Vl) (w0 w:World) (xb:Nat) (left:Int) (fs cs:List Value),zck inD f->zau f<=m->Below w0.heap.size w0 w->w0.heap.size<=xb->FdAt w0 f fs->VAt (fun _=>True) w0 v cs->NumI v->Lib.Utf8Tabs 1 2 w0->0<=left/\left<=1000000000000->BoxN w xb 265 [.int .i64 left] ->
 Calls Tryz.prog 189 #[.pointer (some ⟨xb,0,none⟩),.agg fs.toArray,.agg cs.toArray] w (zf7 w xb (okN m f v=true) (wtV v) left)
def ItC (m:Nat):Prop:=∀(inD:Bool) (f:Fd) (l:List Vl) (w0 w:World) (xb:Nat) (left:Int) (fp vp:Option Addr) (fc vc:Nat),zck inD f->zau f<=m+1->(f.k=15\/f.k=16\/f.k=17)->Below w0.heap.size w0 w->w0.heap.size<=xb->FdsAt w0 f.kids (.slice fp f.kids.length fc)->M.At (fun _=>True) w0 (.many 4 (l.map vlR)) (.slice vp l.length vc)->(∀u ∈ l,NumI u)->Lib.Utf8Tabs 1 2 w0->0<=left/\left<=1000000000000->BoxN w xb 265 [.int .i64 left] ->
 Calls Tryz.prog 196 #[.pointer (some ⟨xb,0,none⟩),.agg #[.int .i64 f.k,.int .i64 f.wd,.int .i64 f.id,.int .i64 f.ix,.slice fp f.kids.length fc],.slice vp l.length vc] w (zf7 w xb ((f.k=16->(l.length:Int)=f.wd)/\(f.k=17->l.length=f.kids.length)/\∀i (hi:i<l.length),okN m (zan f (if f.k=17 then i else 0)) l[i]=true) (zaA l) left)
theorem zoW (m:Nat)(ih:znK m)(ihi:ItC m):znK (m+1):=by
 intro inD f v w0 w xb left fs cs hg hd hb0 hfar hf hv hnum hTab hleft hbx;have HTAB:=zh hTab;clear hTab;obtain⟨fp,fc,rfl,hfk,-,ik,iw,ii,ix⟩:=hf.shape;obtain⟨vp,vc,rfl,hkv⟩:=hv.shape;obtain⟨_,_,e,hfl,hfm,hC⟩:=id hfk;cases e;obtain⟨-,hl1,hl2⟩:=zam hkv;simp only[List.length_map] at hl1;unfold maxLen at hl2 hfm;obtain⟨vn,hvn⟩:∃x,v.nl=x:=⟨_,rfl⟩;obtain⟨nk,hnk⟩:∃n,v.kids.length=n:=⟨_,rfl⟩;have HNK:=zh hnk;rw[hnk] at hl1;have hxl:=hbx.lt;obtain⟨Ws,hWs⟩:∃W,W=w.setCell ⟨xb,0,none⟩ (.int .i64 (left-16)):=⟨_,rfl⟩;have hSs:Ws.heap.size=w.heap.size:=by rw[hWs,World.size_setCell]
 have hgs:w.grownBy Ws (some xb):=by rw[hWs];exact zai _ _ _ _
 obtain⟨W3,hW3,a1,a2,hB3⟩:=zbt Ws 26 (Fld.f7 f fp fc) 39 [.bool vn,.int .i64 v.num,.string v.tx,.slice vp nk vc];rw[hSs] at a1 a2;have hg3:w.grownBy W3 (some xb):=zad hgs (Below.grownBy hB3 _);have hxs:BoxN Ws xb 265 [.int .i64 (left-16)]:=by rw[hWs];exact hbx.set 0 _
 have HX3:=zh (hxs.below hB3 hxs.lt);have HG3:=zh hg3;have A1:=zh a1;have A2:=zh a2;have hxne:xb≠w.heap.size/\xb≠w.heap.size+1:=by omega
 have HW3:Hid (W3=((w.setCell ⟨xb,0,none⟩ (.int .i64 (left-16))).alloc (.cells #[.string f.nm,.bool f.nl,.int .i64 f.k,.int .i64 f.wd,.int .i64 f.id,.int .i64 f.ix,.slice fp f.kids.length fc] 26)).alloc (.cells #[.bool vn,.int .i64 v.num,.string v.tx,.slice vp nk vc] 39)):=zh (by rw[hW3,hWs]);have HB0:=zh hb0;have HFAR:=zh hfar;have HF:=zh hf;have HFK:=zh hfk;have HC:=zh hC;have HKV:=zh hkv;have HV:=zh (show VAt (fun _=>True) w0 v [.bool vn,.int .i64 v.num,.string v.tx,.slice vp nk vc] by rw[<-hvn,<-hnk];exact hv);have HG:=zh hg;have HD:=zh hd;have HNUM:=zh hnum;have HIH:=zh ih;have HIT:=zh ihi;have HVN:=zh hvn;have hx0:=hbx.row 0 _ rfl;have hxz:=hbx.frozen 0;show Calls Tryz.prog 189 #[.pointer (some ⟨xb,0,none⟩),.agg #[.string f.nm,.bool f.nl,.int .i64 f.k,.int .i64 f.wd,.int .i64 f.id,.int .i64 f.ix,.slice fp f.kids.length fc],.agg #[.bool v.nl,.int .i64 v.num,.string v.tx,.slice vp v.kids.length vc]] w _;rw[hvn,hnk];obtain⟨PP,hPP⟩:=Fld.nm (zf7 w xb (okN (m+1) f v=true) (wtV v) left);rw[<-hPP];have HPP:=zh hPP;clear hPP hg hd hb0 hfar hf hv hnum hbx hxs hg3 hgs hSs hWs hW3 a1 a2 hB3 hfk hC hkv ih ihi hvn hnk;have hl16:=hleft.1;have hl17:=hleft.2;clear hleft;obtain⟨hxn1,hxn2⟩:=hxne;have HWT:=zh (zel v);have HWS:=zh (zrh v);by_cases h1:left-16<0
 ·have q1:decide (left-16<0)=true:=decide_eq_true h1;have HEND:Hid (∀W,W3.grownBy W none->PP (.returned (.bool false)) W):=zh (fun W hgW=>by
   rw[HPP.o];exact⟨false,left-16,rfl,zad HG3.o (zdK hgW),zaw HX3.o hgW,⟨fun h=>(by cases h),fun h=>by have h3:=HWT.o;have h4:=h.2;omega⟩,fun h=>(by cases h)⟩)
  have p0:=HX3.o.row 0 _ rfl
  go_in
  go_wp2_with fail;rw[<-HW3.o]
  go_quiet (fail)
  go_wp2_with fail;exact HEND.o _ (zaj _ _ _)
 have q1:decide (left-16<0)=false:=decide_eq_false h1;by_cases h2:left-16<(v.tx.size:Int)
 ·have q2:decide (left-16<(v.tx.size:Int))=true:=decide_eq_true h2;have HEND:Hid (∀W,W3.grownBy W none->PP (.returned (.bool false)) W):=zh (fun W hgW=>by
   rw[HPP.o];exact⟨false,left-16,rfl,zad HG3.o (zdK hgW),zaw HX3.o hgW,⟨fun h=>(by cases h),fun h=>by have h3:=HWS.o;have h4:=h.2;have h5:=zbQ v.kids;omega⟩,fun h=>(by cases h)⟩)
  have p0:=HX3.o.row 0 _ rfl;have r2:=A2.o.row 2 _ rfl
  go_in
  go_wp2_with fail;rw[<-HW3.o]
  go_quiet (fail)
  go_wp2_with fail;exact HEND.o _ (zaj _ _ _)
 have q2:decide (left-16<(v.tx.size:Int))=false:=decide_eq_false h2;by_cases h3:4096<(nk:Int)
 ·have q3:decide (4096<(nk:Int))=true:=decide_eq_true h3;have HEND:Hid (∀W,W3.grownBy W none->PP (.returned (.bool false)) W):=zh (fun W hgW=>by
   rw[HPP.o];exact⟨false,left-16,rfl,zad HG3.o (zdK hgW),zaw HX3.o hgW,⟨fun h=>(by cases h),fun h=>by have h4:=zda h.1;have h5:=HNK.o;omega⟩,fun h=>(by cases h)⟩)
  have p0:=HX3.o.row 0 _ rfl;have r2:=A2.o.row 2 _ rfl;have r3:=A2.o.row 3 _ rfl
  go_in
  go_wp2_with fail;rw[<-HW3.o]
  go_quiet (fail)
  go_wp2_with fail;exact HEND.o _ (zaj _ _ _)
 have q3:decide (4096<(nk:Int))=false:=decide_eq_false h3;have p0:=HX3.o.row 0 _ rfl;have r2:=A2.o.row 2 _ rfl;have r3:=A2.o.row 3 _ rfl
 go_in
 go_wp2_with fail;rw[<-HW3.o]
 go_quiet (fail)
 obtain⟨W4,hW4⟩:∃W,W=W3.drewN nq:=⟨_,rfl⟩;rw[<-hW4];have HG4:Hid (W3.grownBy W4 none):=zh (by rw[hW4];exact zaj _ _ _);have HX4:=zh (zaw HX3.o HG4.o);clear hW4 p0 r2 r3;have p0:=HX4.o.row 0 _ rfl;have z0:=HX4.o.frozen 0;have hlt:=HX4.o.lt;have r2:=(zaw A2.o HG4.o).row 2 _ rfl;go_wp2_with fail;refine Mix.region 11 (by kernel_rfl) rfl ?_;refine Mix.phase2 (ft:=1) (ph:=[0,1,2,3,4,5,6,7,8,9]) (by repeat constructor) (by kernel_rfl) ?_
 repeat (go_big_quiet_step (fail))
 refine wpQuiet_nil ?_;rintro _ ⟨nr,rfl⟩;refine Mix.alone (i:=10) (by kernel_rfl) rfl (by rfl) (fun K hK=>?_)
 go_step
 go_simp;obtain⟨y,hy⟩:=Fld.nm (left-16-(v.tx.size:Int));rw[<-hy];obtain⟨W5,hW5⟩:∃W,W=(W4.drewN (1+nr)).setCell ⟨xb,0,none⟩ (.int .i64 y):=⟨_,rfl⟩;rw[<-hW5];have hg5:W4.grownBy W5 (some xb):=by rw[hW5];exact zad (zaj _ _ _) (zai _ _ _ _)
 have HX5:=zh (show BoxN W5 xb 265 [.int .i64 y] by rw[hW5];exact(zaw HX4.o (zaj _ _ _)).set 0 _);have HG5:Hid (w.grownBy W5 (some xb)):=zh (zad HG3.o (zad (zdK HG4.o) hg5));have A15:=zh ((zaw A1.o HG4.o).kept hg5 (fun e=>by have:=Option.some.inj e;omega));have A25:=zh ((zaw A2.o HG4.o).kept hg5 (fun e=>by have:=Option.some.inj e;omega));have HB5:=zh (zdj HG5.o HB0.o HFAR.o);have HY:=zh (show y=left-16-(v.tx.size:Int)/\0<=y/\y<=left by omega);have HL:=zh (show v.kids.length<=4096 by have:=HNK.o;omega);have HEND:Hid (∀(b:Bool) (y':Int) W,W5.grownBy W (some xb)->BoxN W xb 265 [.int .i64 y']->(b=true↔okN (m+1) f v=true/\wtV v<=left)->(b=true->y'=left-wtV v)->PP (.returned (.bool b)) W):=zh (fun b y' W h1 h2 h3 h4=>by
  rw[HPP.o];exact⟨b,y',rfl,zad HG5.o h1,h2,h3,h4⟩)
 have HEN0:Hid (∀(b:Bool) W,Below W5.heap.size W5 W->(b=true↔okN (m+1) f v=true)->(b=true->v.kids=[])->PP (.returned (.bool b)) W):=zh (fun b W h1 h2 h3=>by
  refine HEND.o b y W (Below.grownBy h1 _) (HX5.o.below h1 HX5.o.lt) ⟨fun hb=>⟨h2.1 hb,?_⟩,fun h=>h2.2 h.1⟩ (fun hb=>?_)
  ·have e:=HWS.o;rw[h3 hb,zaA] at e;have:=HY.o;omega
  ·have e:=HWS.o;rw[h3 hb,zaA] at e;have:=HY.o;omega)
 have HENF:Hid (∀W,Below W5.heap.size W5 W->okN (m+1) f v=false->PP (.returned (.bool false)) W):=zh (fun W h1 h2=>HEN0.o false W h1 ⟨fun h=>(by cases h),fun h=>by rw[h2] at h;cases h⟩ (fun h=>(by cases h)));have hy1:0<=y:=HY.o.2.1;have hy2:y<=1000000000000:=by have:=HY.o;omega
 clear hy hW5 hg5 p0 z0 hlt r2 q1 q2 q3 h1 h2 h3 hx0 hxz;refine hK _ _ ?_;clear hK K;refine Mix.done (by kernel_rfl) ?_;obtain⟨x0,x1,x2,x3⟩:=rr4 A25.o.row;cases vn with
 | true=>
  as_aux_lemma=>
   have HU:=zh (show okN (m+1) f v=(decide (v.num=0) && (decide (v.tx.size=0) && (decide (v.kids.length=0) && zcl f))) by rw[okN,if_neg (by have:=HL.o;omega),if_pos HVN.o]);by_cases n0:v.num=0
   ·have k0:(v.num == 0)=true:=by simp[n0]
    by_cases t0:v.tx.toList=[]
    ·have ht0:=zdI t0;by_cases l0:nk=0
     ·subst l0;have HE:=zh (show okN (m+1) f v=zcl f by rw[HU.o,n0,ht0,HNK.o];simp);have HLB:=zh (zmD (w:=W5) HG.o (HF.o.below HB5.o));have HKE:=zh (List.eq_nil_of_length_eq_zero HNK.o);obtain⟨y0,y1,y2,y3,y4,y5,y6⟩:=rr7 A15.o.row;clear n0 ht0;go_wp2_with fail;refine HLB.o.mono ?_;rintro e W6 ⟨rfl,hb6⟩;have HB6:=zh hb6;clear hb6;go_wp2_with fail;exact HEN0.o _ _ HB6.o (by rw[HE.o]) (fun _=>HKE.o)
     ·have l1:((nk:Int) == 0)=false:=by simp;omega
      have HE:=zh (show okN (m+1) f v=false by rw[HU.o,HNK.o];simp[l0]);clear n0 ht0;go_wp2_with fail;exact HENF.o _ (Below.refl _ _) HE.o
    ·have HE:=zh (show okN (m+1) f v=false by rw[HU.o];simp[zdJ t0]);clear n0;go_wp2_with fail;exact HENF.o _ (Below.refl _ _) HE.o
   ·have k0:(v.num == 0)=false:=by simp[n0]
    have HE:=zh (show okN (m+1) f v=false by rw[HU.o];simp[n0]);clear n0;go_wp2_with fail;exact HENF.o _ (Below.refl _ _) HE.o
 | false=>
  have HU:Hid (okN (m+1) f v=if f.k=19\/f.k=20 then okN m (zan f 0) v
  else if f.k=18 then decide (v.tx.size=0) && (decide (0<=v.num) && (decide (v.num<f.kids.length) && (decide (v.kids.length=1) && v.kids.all (okN m (zan f v.num.toNat)))))
  else if f.k=15\/f.k=16 then decide (v.num=0) && (decide (v.tx.size=0) && ((decide (f.k=15) || decide ((v.kids.length:Int)=f.wd)) && v.kids.all (okN m (zan f 0))))
  else if f.k=17 then decide (v.num=0) && (decide (v.tx.size=0) && (decide (v.kids.length=f.kids.length) && (List.range v.kids.length).all fun i=>okN m (zan f i) ((v.kids[i]?).getD v)))
  else if f.k=12\/f.k=13\/f.k=14 then decide (v.num=0) && (decide (v.kids.length=0) && ((decide (f.k≠12) || Lib.validD v.tx.data.toList) && (decide (f.k≠14) || decide ((v.tx.size:Int)=f.wd))))
  else decide (v.tx.size=0) && (decide (v.kids.length=0) && (if f.k=2 then decide (v.num=0) || decide (v.num=1) else if f.k=11 then true else zdm f.k v.num))):=zh (by rw[okN,if_neg (by have:=HL.o;omega),if_neg (by rw[HVN.o];decide)])
  obtain⟨W7,hW7,a7,hB7⟩:=zao W5 24 [.int .i64 f.k,.int .i64 f.wd,.int .i64 f.id,.int .i64 f.ix,.slice fp f.kids.length fc];have HW7:=zh hW7;have A7:=zh a7;have HB7:=zh hB7;have HX7:=zh (HX5.o.below hB7 HX5.o.lt);have A17:=zh (A15.o.below hB7 A15.o.lt);have A27:=zh (A25.o.below hB7 A25.o.lt);have HB07:=zh (HB5.o.trans (hB7.mono HB5.o.size));have HG7:Hid (W5.grownBy W7 (some xb)):=zh (Below.grownBy hB7 _);have hl5:xb<W5.heap.size:=HX5.o.lt;have hlv:=A25.o.lt;have hlf:=A15.o.lt;have hne7:xb≠W5.heap.size:=by omega
  have y0:=A15.o.row 2 _ rfl;have y1:=A15.o.row 3 _ rfl;have y2:=A15.o.row 4 _ rfl;have y3:=A15.o.row 5 _ rfl;have y4:=A15.o.row 6 _ rfl;clear hW7 a7 hB7;have hor:f.k=19\/f.k=20\/f.k=18\/f.k=15\/f.k=16\/f.k=17\/f.k=12\/f.k=13\/f.k=14\/f.k=2\/f.k=11\/(f.k≠19/\f.k≠20/\f.k≠18/\f.k≠15/\f.k≠16/\f.k≠17/\f.k≠12/\f.k≠13/\f.k≠14/\f.k≠2/\f.k≠11):=by omega
  rcases hor with hk|hk|hk|hk|hk|hk|hk|hk|hk|hk|hk|hk
  ·as_aux_lemma=>
    have HE:=zh (show okN (m+1) f v=okN m (zan f 0) v by rw[HU.o,if_pos (by omega)]);obtain⟨⟨g1,-,-,-⟩,g5⟩:=zbp.1 HG.o;have hone:=zaW g1 (by omega:f.k=15\/f.k=16\/f.k=19\/f.k=20);have hk0:0<f.kids.length:=by omega
    have hkI:(0:Int)<(f.kids.length:Int):=by omega
    have HKID:=zh (show zan f 0=f.kids[0] by unfold zan;rw[List.getElem?_eq_getElem hk0];rfl);rw[HKID.o] at HE;obtain⟨kb,ko,q,c,rfl,e3,c0,c1,c2,c3,c4,c5,c6⟩:=HC.o.seven 0 hk0;simp only[Nat.zero_mul,Nat.add_zero] at c0 c1 c2 c3 c4 c5 c6;have HE3:=zh e3;have HGK:=zh (zbj g5 _ (List.getElem_mem hk0));have HDK:=zh (show zau f.kids[0]<=m by have h1:=HD.o;have h2:=zc2 (List.getElem_mem hk0);omega);have q19:(f.k == 19)=true:=by simp[hk]
    have r19:(f.k != 19)=false:=by simp[hk]
    clear hk hone g1 g5 e3;generalize f.kids[0]=g at *;go_wp2_with fail;rw[<-HW7.o];have p0:=HX7.o.row 0 _ rfl;have z0:=HX7.o.frozen 0;have hlt:=HX7.o.lt;obtain⟨w0x,w1x,w2x,w3x⟩:=rr4 A27.o.row;have v0x:=A7.o.row 0 _ rfl;have v1x:=A7.o.row 1 _ rfl;have v4x:=A7.o.row 4 _ rfl;refine Mix.region 12 (by kernel_rfl) rfl ?_;refine Mix.phase2 (ft:=1) (ph:=[0,1,2,3,4,5,6,7,8,9,10]) (by repeat constructor) (by kernel_rfl) ?_
    repeat (go_big_quiet_step (fail))
    refine wpQuiet_nil ?_;rintro _ ⟨ns,rfl⟩;refine Mix.alone (i:=11) (by kernel_rfl) rfl (by rfl) (fun K hK=>?_)
    go_step
    go_simp;rw[show wrap64 (y+wrap64 (16+(v.tx.size:Int)))=left by unfold wrap64;have:=HY.o;omega];obtain⟨W8,hW8⟩:∃W,W=(W7.drewN (1+ns)).setCell ⟨xb,0,none⟩ (.int .i64 left):=⟨_,rfl⟩;rw[<-hW8];have hg8:W7.grownBy W8 (some xb):=by rw[hW8];exact zad (zaj _ _ _) (zai _ _ _ _)
    have HX8:=zh (show BoxN W8 xb 265 [.int .i64 left] by rw[hW8];exact(zaw HX7.o (zaj _ _ _)).set 0 _);have HG8:=zh (zad HG7.o hg8);have A28:=zh (A27.o.kept hg8 (fun e=>by have h1:=Option.some.inj e;omega));have A78:=zh (A7.o.kept hg8 (fun e=>by have h1:=Option.some.inj e;omega));have HB08:=zh (zdj hg8 HB07.o HFAR.o);have HLE:=zh (show 0<=left/\left<=1000000000000 by omega);have HIK:Hid (∀t,Calls Tryz.prog 189 #[.pointer (some ⟨xb,0,none⟩),.agg #[.string g.nm,.bool g.nl,.int .i64 g.k,.int .i64 g.wd,.int .i64 g.id,.int .i64 g.ix,.slice q g.kids.length c],.agg #[.bool false,.int .i64 v.num,.string v.tx,.slice vp nk vc]] (W8.drewN t) (zf7 (W8.drewN t) xb (okN m g v=true) (wtV v) left)):=zh (fun t=>
     HIH.o _ g v w0 (W8.drewN t) xb left _ _ HGK.o HDK.o (zab HB08.o t) HFAR.o HE3.o HV.o HNUM.o HTAB.o HLE.o (zaw HX8.o (zaj _ _ _)))
    refine hK _ _ ?_;clear hK K hW8 hg8 p0 z0 hlt w0x w1x w2x w3x v0x v1x v4x;refine Mix.done (by kernel_rfl) ?_;have c0':=zaa HB08.o c0;have c1':=zaa HB08.o c1;have c2':=zaa HB08.o c2;have c3':=zaa HB08.o c3;have c4':=zaa HB08.o c4;have c5':=zaa HB08.o c5;have c6':=zaa HB08.o c6;clear c0 c1 c2 c3 c4 c5 c6;obtain⟨w0x,w1x,w2x,w3x⟩:=rr4 A28.o.row;have v0x:=A78.o.row 0 _ rfl;have v1x:=A78.o.row 1 _ rfl;have v4x:=A78.o.row 4 _ rfl;go_wp2_with fail;refine Mix.region 8 (by kernel_rfl) rfl ?_;refine Mix.phase2 (ft:=2) (ph:=[0,1,2,3,4,5]) (by repeat constructor) (by kernel_rfl) ?_
    repeat (go_big_quiet_step (fail))
    refine wpQuiet_nil ?_;rintro _ ⟨nt,rfl⟩;refine Mix.alone (i:=6) (by kernel_rfl) rfl (by rfl) (fun K hK=>?_)
    go_step
    refine(HIK.o (1+nt)).mono ?_;rintro e W9 ⟨bb,y',rfl,g9,bx9,i9,j9⟩;have HG9:=zh (zad HG8.o (zad (zaj _ (1+nt) _) g9));have HX9:=zh bx9;have HI9:=zh i9;have HJ9:=zh j9;clear g9 bx9 i9 j9;refine hK _ _ ?_;clear hK K;refine Mix.phase2 (ft:=0) (ph:=[7]) (.cons rfl .nil) (by kernel_rfl) ?_
    repeat (go_big_quiet_step (fail))
    refine wpQuiet_nil ?_;rintro _ ⟨nu,rfl⟩;refine Mix.done (by kernel_rfl) ?_;go_wp2_with fail;exact HEND.o bb y' _ (zad HG9.o (zaj _ _ _)) (zaw HX9.o (zaj _ _ _)) (by rw[HE.o];exact HI9.o) HJ9.o
  ·as_aux_lemma=>
    have HE:=zh (show okN (m+1) f v=okN m (zan f 0) v by rw[HU.o,if_pos (by omega)]);obtain⟨⟨g1,-,-,-⟩,g5⟩:=zbp.1 HG.o;have hone:=zaW g1 (by omega:f.k=15\/f.k=16\/f.k=19\/f.k=20);have hk0:0<f.kids.length:=by omega
    have hkI:(0:Int)<(f.kids.length:Int):=by omega
    have HKID:=zh (show zan f 0=f.kids[0] by unfold zan;rw[List.getElem?_eq_getElem hk0];rfl);rw[HKID.o] at HE;obtain⟨kb,ko,q,c,rfl,e3,c0,c1,c2,c3,c4,c5,c6⟩:=HC.o.seven 0 hk0;simp only[Nat.zero_mul,Nat.add_zero] at c0 c1 c2 c3 c4 c5 c6;have HE3:=zh e3;have HGK:=zh (zbj g5 _ (List.getElem_mem hk0));have HDK:=zh (show zau f.kids[0]<=m by have h1:=HD.o;have h2:=zc2 (List.getElem_mem hk0);omega);have q19:(f.k == 19)=false:=by simp;omega
    have r19:(f.k != 19)=true:=by simp;omega
    have q20:(f.k == 20)=true:=by simp[hk]
    have r20:(f.k != 20)=false:=by simp[hk]
    clear hk hone g1 g5 e3;generalize f.kids[0]=g at *;go_wp2_with fail;rw[<-HW7.o];have p0:=HX7.o.row 0 _ rfl;have z0:=HX7.o.frozen 0;have hlt:=HX7.o.lt;obtain⟨w0x,w1x,w2x,w3x⟩:=rr4 A27.o.row;have v0x:=A7.o.row 0 _ rfl;have v1x:=A7.o.row 1 _ rfl;have v4x:=A7.o.row 4 _ rfl;refine Mix.region 12 (by kernel_rfl) rfl ?_;refine Mix.phase2 (ft:=1) (ph:=[0,1,2,3,4,5,6,7,8,9,10]) (by repeat constructor) (by kernel_rfl) ?_
    repeat (go_big_quiet_step (fail))
    refine wpQuiet_nil ?_;rintro _ ⟨ns,rfl⟩;refine Mix.alone (i:=11) (by kernel_rfl) rfl (by rfl) (fun K hK=>?_)
    go_step
    go_simp;rw[show wrap64 (y+wrap64 (16+(v.tx.size:Int)))=left by unfold wrap64;have:=HY.o;omega];obtain⟨W8,hW8⟩:∃W,W=(W7.drewN (1+ns)).setCell ⟨xb,0,none⟩ (.int .i64 left):=⟨_,rfl⟩;rw[<-hW8];have hg8:W7.grownBy W8 (some xb):=by rw[hW8];exact zad (zaj _ _ _) (zai _ _ _ _)
    have HX8:=zh (show BoxN W8 xb 265 [.int .i64 left] by rw[hW8];exact(zaw HX7.o (zaj _ _ _)).set 0 _);have HG8:=zh (zad HG7.o hg8);have A28:=zh (A27.o.kept hg8 (fun e=>by have h1:=Option.some.inj e;omega));have A78:=zh (A7.o.kept hg8 (fun e=>by have h1:=Option.some.inj e;omega));have HB08:=zh (zdj hg8 HB07.o HFAR.o);have HLE:=zh (show 0<=left/\left<=1000000000000 by omega);have HIK:Hid (∀t,Calls Tryz.prog 189 #[.pointer (some ⟨xb,0,none⟩),.agg #[.string g.nm,.bool g.nl,.int .i64 g.k,.int .i64 g.wd,.int .i64 g.id,.int .i64 g.ix,.slice q g.kids.length c],.agg #[.bool false,.int .i64 v.num,.string v.tx,.slice vp nk vc]] (W8.drewN t) (zf7 (W8.drewN t) xb (okN m g v=true) (wtV v) left)):=zh (fun t=>
     HIH.o _ g v w0 (W8.drewN t) xb left _ _ HGK.o HDK.o (zab HB08.o t) HFAR.o HE3.o HV.o HNUM.o HTAB.o HLE.o (zaw HX8.o (zaj _ _ _)))
    refine hK _ _ ?_;clear hK K hW8 hg8 p0 z0 hlt w0x w1x w2x w3x v0x v1x v4x;refine Mix.done (by kernel_rfl) ?_;have c0':=zaa HB08.o c0;have c1':=zaa HB08.o c1;have c2':=zaa HB08.o c2;have c3':=zaa HB08.o c3;have c4':=zaa HB08.o c4;have c5':=zaa HB08.o c5;have c6':=zaa HB08.o c6;clear c0 c1 c2 c3 c4 c5 c6;obtain⟨w0x,w1x,w2x,w3x⟩:=rr4 A28.o.row;have v0x:=A78.o.row 0 _ rfl;have v1x:=A78.o.row 1 _ rfl;have v4x:=A78.o.row 4 _ rfl;go_wp2_with fail;refine Mix.region 8 (by kernel_rfl) rfl ?_;refine Mix.phase2 (ft:=2) (ph:=[0,1,2,3,4,5]) (by repeat constructor) (by kernel_rfl) ?_
    repeat (go_big_quiet_step (fail))
    refine wpQuiet_nil ?_;rintro _ ⟨nt,rfl⟩;refine Mix.alone (i:=6) (by kernel_rfl) rfl (by rfl) (fun K hK=>?_)
    go_step
    refine(HIK.o (1+nt)).mono ?_;rintro e W9 ⟨bb,y',rfl,g9,bx9,i9,j9⟩;have HG9:=zh (zad HG8.o (zad (zaj _ (1+nt) _) g9));have HX9:=zh bx9;have HI9:=zh i9;have HJ9:=zh j9;clear g9 bx9 i9 j9;refine hK _ _ ?_;clear hK K;refine Mix.phase2 (ft:=0) (ph:=[7]) (.cons rfl .nil) (by kernel_rfl) ?_
    repeat (go_big_quiet_step (fail))
    refine wpQuiet_nil ?_;rintro _ ⟨nu,rfl⟩;refine Mix.done (by kernel_rfl) ?_;go_wp2_with fail;exact HEND.o bb y' _ (zad HG9.o (zaj _ _ _)) (zaw HX9.o (zaj _ _ _)) (by rw[HE.o];exact HI9.o) HJ9.o
  ·as_aux_lemma=>
    have HE:=zh (show okN (m+1) f v=(decide (v.tx.size=0) && (decide (0<=v.num) && (decide (v.num<f.kids.length) && (decide (v.kids.length=1) && v.kids.all (okN m (zan f v.num.toNat)))))) by rw[HU.o,if_neg (by omega),if_pos hk]);have q19:(f.k == 19)=false:=by simp;omega
    have r19:(f.k != 19)=true:=by simp;omega
    have q20:(f.k == 20)=false:=by simp;omega
    have r20:(f.k != 20)=true:=by simp;omega
    have q18:(f.k == 18)=true:=by simp[hk]
    have r18:(f.k != 18)=false:=by simp[hk]
    clear hk;by_cases t0:v.tx.toList=[]
    ·have ht0:=zdI t0;by_cases n0:0<=v.num
     ·have k0:decide (0<=v.num)=true:=decide_eq_true n0;by_cases n1:v.num<(f.kids.length:Int)
      ·have k1:decide (v.num<(f.kids.length:Int))=true:=decide_eq_true n1;by_cases l1:nk=1
       ·subst l1;have hj:v.num.toNat<f.kids.length:=by omega
        have hkl:0<v.kids.length:=by rw[HNK.o];exact Nat.zero_lt_one
        obtain⟨⟨g1,-,-,-⟩,g5⟩:=zbp.1 HG.o;have HKID:=zh (show zan f v.num.toNat=f.kids[v.num.toNat] by unfold zan;rw[List.getElem?_eq_getElem hj];rfl);obtain⟨kb,ko,q,c,rfl,e3,c0,c1,c2,c3,c4,c5,c6⟩:=HC.o.seven v.num.toNat hj;obtain⟨ab,ao,aq,aqc,rfl,-,s0,s1,s2,s3,hu⟩:=zcI HKV.o 0 hkl;simp only[Nat.zero_mul,Nat.add_zero] at s0 s1 s2 s3;have HE3:=zh e3;have HU3:=zh hu;have HGK:=zh (zbj g5 _ (List.getElem_mem hj));have HDK:=zh (show zau f.kids[v.num.toNat]<=m by have h1:=HD.o;have h2:=zc2 (List.getElem_mem hj);omega);have HNU:=zh (HNUM.o.kids _ (List.getElem_mem hkl));have HKS:=zh (zmZ HNK.o hkl);have HE4:=zh (show okN (m+1) f v=okN m f.kids[v.num.toNat] v.kids[0] by
         rw[HE.o,ht0,HNK.o,HKID.o,decide_eq_true n0,decide_eq_true n1];exact zqW (p:=okN m f.kids[v.num.toNat]) HNK.o hkl)
        have HWU:=zh (show wtV v=16+v.tx.size+wtV v.kids[0] by
         have h1:=HWS.o;rw[HKS.o,zaA,zaA] at h1;omega)
        clear g1 g5 e3 hu;generalize f.kids[v.num.toNat]=g at *;generalize v.kids[0]=u at *;have HIK:Hid (∀t,Calls Tryz.prog 189 #[.pointer (some ⟨xb,0,none⟩),.agg #[.string g.nm,.bool g.nl,.int .i64 g.k,.int .i64 g.wd,.int .i64 g.id,.int .i64 g.ix,.slice q g.kids.length c],.agg #[.bool u.nl,.int .i64 u.num,.string u.tx,.slice aq u.kids.length aqc]] (W7.drewN t) (zf7 (W7.drewN t) xb (okN m g u=true) (wtV u) y)):=zh (fun t=>
         HIH.o _ g u w0 (W7.drewN t) xb y _ _ HGK.o HDK.o (zab HB07.o t) HFAR.o HE3.o HU3.o HNU.o HTAB.o ⟨hy1,hy2⟩ (zaw HX7.o (zaj _ _ _)))
        clear ht0;go_wp2_with fail;rw[<-HW7.o];replace c0:=zaa HB07.o c0;replace c1:=zaa HB07.o c1;replace c2:=zaa HB07.o c2;replace c3:=zaa HB07.o c3;replace c4:=zaa HB07.o c4;replace c5:=zaa HB07.o c5;replace c6:=zaa HB07.o c6;replace s0:=zaa HB07.o s0;replace s1:=zaa HB07.o s1;replace s2:=zaa HB07.o s2;replace s3:=zaa HB07.o s3;obtain⟨w0x,w1x,w2x,w3x⟩:=rr4 A27.o.row;have v0x:=A7.o.row 0 _ rfl;have v1x:=A7.o.row 1 _ rfl;have v4x:=A7.o.row 4 _ rfl;refine Mix.region 37 (by kernel_rfl) (by kernel_rfl) ?_;refine Mix.phase2 (ft:=3) (ph:=[0,1,2,3,4,5,6,7,8,9,10,11,12,13,14,15,16,17,18,19,20,21,22,23,24,25,26,27,28,29,30,31,32,33]) (by repeat constructor) (by kernel_rfl) ?_
        repeat (go_big_quiet_step (fail))
        refine wpQuiet_nil ?_;rintro _ ⟨nt,rfl⟩;refine Mix.alone (i:=34) (by kernel_rfl) rfl (by rfl) (fun K hK=>?_)
        go_step
        refine(HIK.o (1+nt)).mono ?_;rintro e W9 ⟨bb,y',rfl,g9,bx9,i9,j9⟩;have HG9:=zh (zad HG7.o (zad (zaj _ (1+nt) _) g9));have HX9:=zh bx9;have HI9:=zh (show bb=true↔okN (m+1) f v=true/\wtV v<=left by rw[HE4.o,i9,HWU.o];have h1:=HY.o;constructor <;> rintro⟨h2,h3⟩ <;> exact⟨h2,by omega⟩);have HJ9:=zh (show bb=true->y'=left-wtV v from fun hb=>by have h1:=j9 hb;have h2:=HWU.o;have h3:=HY.o;omega);clear g9 bx9 i9 j9;refine hK _ _ ?_;clear hK K;refine Mix.phase2 (ft:=0) (ph:=[35,36]) (by repeat constructor) (by kernel_rfl) ?_
        repeat (go_big_quiet_step (fail))
        refine wpQuiet_nil ?_;rintro _ ⟨nu,rfl⟩;refine Mix.done (by kernel_rfl) ?_;go_wp2_with fail;exact HEND.o bb y' _ (zad HG9.o (zaj _ _ _)) (zaw HX9.o (zaj _ _ _)) HI9.o HJ9.o
       ·have k2:((nk:Int) == 1)=false:=by simp;omega
        have HE2:=zh (show okN (m+1) f v=false by rw[HE.o,HNK.o];simp[l1]);clear ht0;go_wp2_with fail;rw[<-HW7.o];obtain⟨w0x,w1x,w2x,w3x⟩:=rr4 A27.o.row;have v0x:=A7.o.row 0 _ rfl;have v1x:=A7.o.row 1 _ rfl;have v4x:=A7.o.row 4 _ rfl
        go_quiet (fail)
        go_wp2_with fail;exact HENF.o _ (zab HB7.o _) HE2.o
      ·have k1:decide (v.num<(f.kids.length:Int))=false:=decide_eq_false n1;have HE2:=zh (show okN (m+1) f v=false by rw[HE.o];simp[n1]);clear ht0;go_wp2_with fail;rw[<-HW7.o];obtain⟨w0x,w1x,w2x,w3x⟩:=rr4 A27.o.row;have v0x:=A7.o.row 0 _ rfl;have v1x:=A7.o.row 1 _ rfl;have v4x:=A7.o.row 4 _ rfl
       go_quiet (fail)
       go_wp2_with fail;exact HENF.o _ (zab HB7.o _) HE2.o
     ·have k0:decide (0<=v.num)=false:=decide_eq_false n0;have HE2:=zh (show okN (m+1) f v=false by rw[HE.o];simp[n0]);clear ht0;go_wp2_with fail;rw[<-HW7.o];obtain⟨w0x,w1x,w2x,w3x⟩:=rr4 A27.o.row;have v0x:=A7.o.row 0 _ rfl;have v1x:=A7.o.row 1 _ rfl;have v4x:=A7.o.row 4 _ rfl
      go_quiet (fail)
      go_wp2_with fail;exact HENF.o _ (zab HB7.o _) HE2.o
    ·have HE2:=zh (show okN (m+1) f v=false by rw[HE.o];simp[zdJ t0]);have qt:(v.tx.toList == [])=false:=by simpa using t0
     have qt2:decide (v.tx.toList=[])=false:=by simpa using t0
     go_wp2_with fail;rw[<-HW7.o];obtain⟨w0x,w1x,w2x,w3x⟩:=rr4 A27.o.row;have v0x:=A7.o.row 0 _ rfl;have v1x:=A7.o.row 1 _ rfl;have v4x:=A7.o.row 4 _ rfl
     go_quiet (fail)
     go_wp2_with fail;exact HENF.o _ (zab HB7.o _) HE2.o
  ·as_aux_lemma=>
    have HE:=zh (show okN (m+1) f v=(decide (v.num=0) && (decide (v.tx.size=0) && v.kids.all (okN m (zan f 0)))) by rw[HU.o,if_neg (by omega),if_neg (by omega),if_pos (by omega)];simp[hk]);have HIK:=zh (HIT.o inD f v.kids w0 W7 xb y fp vp fc vc HG.o HD.o (by omega) HB07.o HFAR.o HFK.o HKV.o HNUM.o.kids HTAB.o ⟨hy1,hy2⟩ HX7.o);rw[show Value.slice vp v.kids.length vc=Value.slice vp nk vc by rw[HNK.o]] at HIK;have HOK:=zh (show v.num=0->v.tx.size=0->(okN (m+1) f v=true↔(f.k=16->(v.kids.length:Int)=f.wd)/\(f.k=17->v.kids.length=f.kids.length)/\∀i (hi:i<v.kids.length),okN m (zan f (if f.k=17 then i else 0)) v.kids[i]=true) from fun n0 t0=>by
     rw[HE.o,n0,t0];exact zoU hk)
    have q19:(f.k == 19)=false:=by simp;omega
    have r19:(f.k != 19)=true:=by simp;omega
    have q20:(f.k == 20)=false:=by simp;omega
    have r20:(f.k != 20)=true:=by simp;omega
    have q18:(f.k == 18)=false:=by simp;omega
    have r18:(f.k != 18)=true:=by simp;omega
    have q15:(f.k == 15)=true:=by simp[hk]
    have r15:(f.k != 15)=false:=by simp[hk]
    clear hk;by_cases n0:v.num=0
    ·have k0:(v.num == 0)=true:=by simp[n0]
     by_cases t0:v.tx.toList=[]
     ·have HOK2:=zh (HOK.o n0 (zdI t0));have HT0:=zh (zdI t0);clear n0;go_wp2_with fail;rw[<-HW7.o];refine HIK.o.mono ?_;rintro e W9 ⟨bb,y',rfl,g9,bx9,i9,j9⟩;have HG9:=zh (zad HG7.o g9);have HX9:=zh bx9;have HI9:=zh (show bb=true↔okN (m+1) f v=true/\wtV v<=left by rw[HOK2.o,i9,HWS.o];have h1:=HY.o;have h4:=HT0.o;constructor <;> rintro⟨h2,h3⟩ <;> exact⟨h2,by omega⟩);have HJ9:=zh (show bb=true->y'=left-wtV v from fun hb=>by have h1:=j9 hb;have h2:=HWS.o;have h3:=HY.o;omega);clear g9 bx9 i9 j9;go_wp2_with fail;exact HEND.o bb y' _ HG9.o HX9.o HI9.o HJ9.o
     ·have HE2:=zh (show okN (m+1) f v=false by rw[HE.o];simp[zdJ t0]);clear n0;go_wp2_with fail;rw[<-HW7.o];exact HENF.o _ HB7.o HE2.o
    ·have k0:(v.num == 0)=false:=by simp[n0]
     have HE2:=zh (show okN (m+1) f v=false by rw[HE.o];simp[n0]);clear n0;go_wp2_with fail;rw[<-HW7.o];exact HENF.o _ HB7.o HE2.o
  ·as_aux_lemma=>
    have HE:=zh (show okN (m+1) f v=(decide (v.num=0) && (decide (v.tx.size=0) && (decide ((v.kids.length:Int)=f.wd) && v.kids.all (okN m (zan f 0))))) by rw[HU.o,if_neg (by omega),if_neg (by omega),if_pos (by omega)];simp[hk]);have HIK:=zh (HIT.o inD f v.kids w0 W7 xb y fp vp fc vc HG.o HD.o (by omega) HB07.o HFAR.o HFK.o HKV.o HNUM.o.kids HTAB.o ⟨hy1,hy2⟩ HX7.o);rw[show Value.slice vp v.kids.length vc=Value.slice vp nk vc by rw[HNK.o]] at HIK;have HOK:=zh (show v.num=0->v.tx.size=0->(okN (m+1) f v=true↔(f.k=16->(v.kids.length:Int)=f.wd)/\(f.k=17->v.kids.length=f.kids.length)/\∀i (hi:i<v.kids.length),okN m (zan f (if f.k=17 then i else 0)) v.kids[i]=true) from fun n0 t0=>by
     rw[HE.o,n0,t0];exact zoV hk)
    have q19:(f.k == 19)=false:=by simp;omega
    have r19:(f.k != 19)=true:=by simp;omega
    have q20:(f.k == 20)=false:=by simp;omega
    have r20:(f.k != 20)=true:=by simp;omega
    have q18:(f.k == 18)=false:=by simp;omega
    have r18:(f.k != 18)=true:=by simp;omega
    have q15:(f.k == 15)=false:=by simp;omega
    have r15:(f.k != 15)=true:=by simp;omega
    have q16:(f.k == 16)=true:=by simp[hk]
    have r16:(f.k != 16)=false:=by simp[hk]
    clear hk;by_cases n0:v.num=0
    ·have k0:(v.num == 0)=true:=by simp[n0]
     by_cases t0:v.tx.toList=[]
     ·have HOK2:=zh (HOK.o n0 (zdI t0));have HT0:=zh (zdI t0);clear n0;go_wp2_with fail;rw[<-HW7.o];refine HIK.o.mono ?_;rintro e W9 ⟨bb,y',rfl,g9,bx9,i9,j9⟩;have HG9:=zh (zad HG7.o g9);have HX9:=zh bx9;have HI9:=zh (show bb=true↔okN (m+1) f v=true/\wtV v<=left by rw[HOK2.o,i9,HWS.o];have h1:=HY.o;have h4:=HT0.o;constructor <;> rintro⟨h2,h3⟩ <;> exact⟨h2,by omega⟩);have HJ9:=zh (show bb=true->y'=left-wtV v from fun hb=>by have h1:=j9 hb;have h2:=HWS.o;have h3:=HY.o;omega);clear g9 bx9 i9 j9;go_wp2_with fail;exact HEND.o bb y' _ HG9.o HX9.o HI9.o HJ9.o
     ·have HE2:=zh (show okN (m+1) f v=false by rw[HE.o];simp[zdJ t0]);clear n0;go_wp2_with fail;rw[<-HW7.o];exact HENF.o _ HB7.o HE2.o
    ·have k0:(v.num == 0)=false:=by simp[n0]
     have HE2:=zh (show okN (m+1) f v=false by rw[HE.o];simp[n0]);clear n0;go_wp2_with fail;rw[<-HW7.o];exact HENF.o _ HB7.o HE2.o
  ·as_aux_lemma=>
    have HE:=zh (show okN (m+1) f v=(decide (v.num=0) && (decide (v.tx.size=0) && (decide (v.kids.length=f.kids.length) && (List.range v.kids.length).all fun i=>okN m (zan f i) ((v.kids[i]?).getD v)))) by rw[HU.o,if_neg (by omega),if_neg (by omega),if_neg (by omega),if_pos (by omega)]);have HIK:=zh (HIT.o inD f v.kids w0 W7 xb y fp vp fc vc HG.o HD.o (by omega) HB07.o HFAR.o HFK.o HKV.o HNUM.o.kids HTAB.o ⟨hy1,hy2⟩ HX7.o);rw[show Value.slice vp v.kids.length vc=Value.slice vp nk vc by rw[HNK.o]] at HIK;have HOK:=zh (show v.num=0->v.tx.size=0->(okN (m+1) f v=true↔(f.k=16->(v.kids.length:Int)=f.wd)/\(f.k=17->v.kids.length=f.kids.length)/\∀i (hi:i<v.kids.length),okN m (zan f (if f.k=17 then i else 0)) v.kids[i]=true) from fun n0 t0=>by
     rw[HE.o,n0,t0];exact zmF hk)
    have q19:(f.k == 19)=false:=by simp;omega
    have r19:(f.k != 19)=true:=by simp;omega
    have q20:(f.k == 20)=false:=by simp;omega
    have r20:(f.k != 20)=true:=by simp;omega
    have q18:(f.k == 18)=false:=by simp;omega
    have r18:(f.k != 18)=true:=by simp;omega
    have q15:(f.k == 15)=false:=by simp;omega
    have r15:(f.k != 15)=true:=by simp;omega
    have q16:(f.k == 16)=false:=by simp;omega
    have r16:(f.k != 16)=true:=by simp;omega
    have q17:(f.k == 17)=true:=by simp[hk]
    have r17:(f.k != 17)=false:=by simp[hk]
    clear hk;by_cases n0:v.num=0
    ·have k0:(v.num == 0)=true:=by simp[n0]
     by_cases t0:v.tx.toList=[]
     ·have HOK2:=zh (HOK.o n0 (zdI t0));have HT0:=zh (zdI t0);clear n0;go_wp2_with fail;rw[<-HW7.o];refine HIK.o.mono ?_;rintro e W9 ⟨bb,y',rfl,g9,bx9,i9,j9⟩;have HG9:=zh (zad HG7.o g9);have HX9:=zh bx9;have HI9:=zh (show bb=true↔okN (m+1) f v=true/\wtV v<=left by rw[HOK2.o,i9,HWS.o];have h1:=HY.o;have h4:=HT0.o;constructor <;> rintro⟨h2,h3⟩ <;> exact⟨h2,by omega⟩);have HJ9:=zh (show bb=true->y'=left-wtV v from fun hb=>by have h1:=j9 hb;have h2:=HWS.o;have h3:=HY.o;omega);clear g9 bx9 i9 j9;go_wp2_with fail;exact HEND.o bb y' _ HG9.o HX9.o HI9.o HJ9.o
     ·have HE2:=zh (show okN (m+1) f v=false by rw[HE.o];simp[zdJ t0]);clear n0;go_wp2_with fail;rw[<-HW7.o];exact HENF.o _ HB7.o HE2.o
    ·have k0:(v.num == 0)=false:=by simp[n0]
     have HE2:=zh (show okN (m+1) f v=false by rw[HE.o];simp[n0]);clear n0;go_wp2_with fail;rw[<-HW7.o];exact HENF.o _ HB7.o HE2.o
  ·as_aux_lemma=>
    have HE:=zh (show okN (m+1) f v=(decide (v.num=0) && (decide (v.kids.length=0) && Lib.validD v.tx.data.toList)) by rw[HU.o,if_neg (by omega),if_neg (by omega),if_neg (by omega),if_neg (by omega),if_pos (by omega)];simp[hk]);have q19:(f.k == 19)=false:=by simp;omega
    have r19:(f.k != 19)=true:=by simp;omega
    have q20:(f.k == 20)=false:=by simp;omega
    have r20:(f.k != 20)=true:=by simp;omega
    have q18:(f.k == 18)=false:=by simp;omega
    have r18:(f.k != 18)=true:=by simp;omega
    have q15:(f.k == 15)=false:=by simp;omega
    have r15:(f.k != 15)=true:=by simp;omega
    have q16:(f.k == 16)=false:=by simp;omega
    have r16:(f.k != 16)=true:=by simp;omega
    have q17:(f.k == 17)=false:=by simp;omega
    have r17:(f.k != 17)=true:=by simp;omega
    have q12:(f.k == 12)=true:=by simp[hk]
    have r12:(f.k != 12)=false:=by simp[hk]
    have q14:(f.k == 14)=false:=by simp[hk]
    have r14:(f.k != 14)=true:=by simp[hk]
    have HVS:=zh (zgY v.tx W7 (by have:=HY.o;omega) (Utf8Tabs_below HTAB.o HB07.o));clear hk;by_cases n0:v.num=0
    ·have k0:(v.num == 0)=true:=by simp[n0]
     by_cases l0:nk=0
     ·subst l0;have HE2:=zh (show okN (m+1) f v=Lib.validD v.tx.data.toList by rw[HE.o,n0,HNK.o];simp);have HKE:=zh (List.eq_nil_of_length_eq_zero HNK.o);clear n0;generalize Lib.validD v.tx.data.toList=vb at *;go_wp2_with fail;rw[<-HW7.o];refine HVS.o.mono ?_;rintro e W9 ⟨rfl,hb9⟩;have HB9':=zh (HB7.o.trans (hb9.mono HB7.o.size));have va1:=(A7.o.below hb9 A7.o.lt).row 0 _ rfl;clear hb9;cases vb with
      | true=>
       go_wp2_with fail;exact HEN0.o true _ HB9'.o (by rw[HE2.o]) (fun _=>HKE.o)
      | false=>
       go_wp2_with fail;exact HEN0.o false _ HB9'.o (by rw[HE2.o]) (fun _=>HKE.o)
     ·have l1:((nk:Int) == 0)=false:=by simp;omega
      have HE2:=zh (show okN (m+1) f v=false by rw[HE.o,HNK.o];simp[l0]);clear n0;go_wp2_with fail;rw[<-HW7.o];exact HENF.o _ HB7.o HE2.o
    ·have k0:(v.num == 0)=false:=by simp[n0]
     have HE2:=zh (show okN (m+1) f v=false by rw[HE.o];simp[n0]);clear n0;go_wp2_with fail;rw[<-HW7.o];exact HENF.o _ HB7.o HE2.o
  ·as_aux_lemma=>
    have HE:=zh (show okN (m+1) f v=(decide (v.num=0) && (decide (v.kids.length=0) && true)) by rw[HU.o,if_neg (by omega),if_neg (by omega),if_neg (by omega),if_neg (by omega),if_pos (by omega)];simp[hk]);have q19:(f.k == 19)=false:=by simp;omega
    have r19:(f.k != 19)=true:=by simp;omega
    have q20:(f.k == 20)=false:=by simp;omega
    have r20:(f.k != 20)=true:=by simp;omega
    have q18:(f.k == 18)=false:=by simp;omega
    have r18:(f.k != 18)=true:=by simp;omega
    have q15:(f.k == 15)=false:=by simp;omega
    have r15:(f.k != 15)=true:=by simp;omega
    have q16:(f.k == 16)=false:=by simp;omega
    have r16:(f.k != 16)=true:=by simp;omega
    have q17:(f.k == 17)=false:=by simp;omega
    have r17:(f.k != 17)=true:=by simp;omega
    have q12:(f.k == 12)=false:=by simp;omega
    have r12:(f.k != 12)=true:=by simp;omega
    have q13:(f.k == 13)=true:=by simp[hk]
    have r13:(f.k != 13)=false:=by simp[hk]
    have q14:(f.k == 14)=false:=by simp[hk]
    have r14:(f.k != 14)=true:=by simp[hk]
    clear hk;by_cases n0:v.num=0
    ·have k0:(v.num == 0)=true:=by simp[n0]
     by_cases l0:nk=0
     ·subst l0;have HE2:=zh (show okN (m+1) f v=true by rw[HE.o,n0,HNK.o];simp);have HKE:=zh (List.eq_nil_of_length_eq_zero HNK.o);clear n0;go_wp2_with fail;rw[<-HW7.o];exact HEN0.o true _ HB7.o (by rw[HE2.o]) (fun _=>HKE.o)
     ·have l1:((nk:Int) == 0)=false:=by simp;omega
      have HE2:=zh (show okN (m+1) f v=false by rw[HE.o,HNK.o];simp[l0]);clear n0;go_wp2_with fail;rw[<-HW7.o];exact HENF.o _ HB7.o HE2.o
    ·have k0:(v.num == 0)=false:=by simp[n0]
     have HE2:=zh (show okN (m+1) f v=false by rw[HE.o];simp[n0]);clear n0;go_wp2_with fail;rw[<-HW7.o];exact HENF.o _ HB7.o HE2.o
  ·as_aux_lemma=>
    have HE:=zh (show okN (m+1) f v=(decide (v.num=0) && (decide (v.kids.length=0) && decide ((v.tx.size:Int)=f.wd))) by rw[HU.o,if_neg (by omega),if_neg (by omega),if_neg (by omega),if_neg (by omega),if_pos (by omega)];simp[hk]);have q19:(f.k == 19)=false:=by simp;omega
    have r19:(f.k != 19)=true:=by simp;omega
    have q20:(f.k == 20)=false:=by simp;omega
    have r20:(f.k != 20)=true:=by simp;omega
    have q18:(f.k == 18)=false:=by simp;omega
    have r18:(f.k != 18)=true:=by simp;omega
    have q15:(f.k == 15)=false:=by simp;omega
    have r15:(f.k != 15)=true:=by simp;omega
    have q16:(f.k == 16)=false:=by simp;omega
    have r16:(f.k != 16)=true:=by simp;omega
    have q17:(f.k == 17)=false:=by simp;omega
    have r17:(f.k != 17)=true:=by simp;omega
    have q12:(f.k == 12)=false:=by simp;omega
    have r12:(f.k != 12)=true:=by simp;omega
    have q13:(f.k == 13)=false:=by simp;omega
    have r13:(f.k != 13)=true:=by simp;omega
    have q14:(f.k == 14)=true:=by simp[hk]
    have r14:(f.k != 14)=false:=by simp[hk]
    clear hk;by_cases n0:v.num=0
    ·have k0:(v.num == 0)=true:=by simp[n0]
     by_cases l0:nk=0
     ·subst l0;have HE2:=zh (show okN (m+1) f v=decide ((v.tx.size:Int)=f.wd) by rw[HE.o,n0,HNK.o];simp);have HKE:=zh (List.eq_nil_of_length_eq_zero HNK.o);clear n0;by_cases hw:(v.tx.size:Int)=f.wd
      ·have k1:((v.tx.size:Int) == f.wd)=true:=by simp[hw]
       have HE3:=zh (show okN (m+1) f v=true by rw[HE2.o];exact decide_eq_true hw);clear hw;go_wp2_with fail;rw[<-HW7.o];exact HEN0.o true _ HB7.o (by rw[HE3.o]) (fun _=>HKE.o)
      ·have k1:((v.tx.size:Int) == f.wd)=false:=by simp[hw]
       have HE3:=zh (show okN (m+1) f v=false by rw[HE2.o];exact decide_eq_false hw);clear hw;go_wp2_with fail;rw[<-HW7.o];exact HENF.o _ HB7.o HE3.o
     ·have l1:((nk:Int) == 0)=false:=by simp;omega
      have HE2:=zh (show okN (m+1) f v=false by rw[HE.o,HNK.o];simp[l0]);clear n0;go_wp2_with fail;rw[<-HW7.o];exact HENF.o _ HB7.o HE2.o
    ·have k0:(v.num == 0)=false:=by simp[n0]
     have HE2:=zh (show okN (m+1) f v=false by rw[HE.o];simp[n0]);clear n0;go_wp2_with fail;rw[<-HW7.o];exact HENF.o _ HB7.o HE2.o
  ·as_aux_lemma=>
    have HE:=zh (show okN (m+1) f v=(decide (v.tx.size=0) && (decide (v.kids.length=0) && (decide (v.num=0) || decide (v.num=1)))) by rw[HU.o,if_neg (by omega),if_neg (by omega),if_neg (by omega),if_neg (by omega),if_neg (by omega)];rw[if_pos hk]);have q19:(f.k == 19)=false:=by simp;omega
    have r19:(f.k != 19)=true:=by simp;omega
    have q20:(f.k == 20)=false:=by simp;omega
    have r20:(f.k != 20)=true:=by simp;omega
    have q18:(f.k == 18)=false:=by simp;omega
    have r18:(f.k != 18)=true:=by simp;omega
    have q15:(f.k == 15)=false:=by simp;omega
    have r15:(f.k != 15)=true:=by simp;omega
    have q16:(f.k == 16)=false:=by simp;omega
    have r16:(f.k != 16)=true:=by simp;omega
    have q17:(f.k == 17)=false:=by simp;omega
    have r17:(f.k != 17)=true:=by simp;omega
    have q12:(f.k == 12)=false:=by simp;omega
    have r12:(f.k != 12)=true:=by simp;omega
    have q13:(f.k == 13)=false:=by simp;omega
    have r13:(f.k != 13)=true:=by simp;omega
    have q14:(f.k == 14)=false:=by simp;omega
    have r14:(f.k != 14)=true:=by simp;omega
    have q2:(f.k == 2)=true:=by simp[hk]
    have r2:(f.k != 2)=false:=by simp[hk]
    have q11:(f.k == 11)=false:=by simp;omega
    have r11:(f.k != 11)=true:=by simp;omega
    clear hk;by_cases t0:v.tx.toList=[]
    ·have ht0:=zh (zdI t0);by_cases l0:nk=0
     ·subst l0;have HE2:=zh (show okN (m+1) f v=(decide (v.num=0) || decide (v.num=1)) by rw[HE.o,ht0.o,HNK.o];simp);have HKE:=zh (List.eq_nil_of_length_eq_zero HNK.o);by_cases n0:v.num=0
      ·have k0:(v.num == 0)=true:=by simp[n0]
       have HE3:=zh (show okN (m+1) f v=true by rw[HE2.o,n0];rfl);clear n0;go_wp2_with fail;rw[<-HW7.o];exact HEN0.o true _ HB7.o (by rw[HE3.o]) (fun _=>HKE.o)
      ·have k0:(v.num == 0)=false:=by simp[n0]
       by_cases n1:v.num=1
       ·have k1:(v.num == 1)=true:=by simp[n1]
        have HE3:=zh (show okN (m+1) f v=true by rw[HE2.o,n1];rfl);clear n0 n1;go_wp2_with fail;rw[<-HW7.o];exact HEN0.o true _ HB7.o (by rw[HE3.o]) (fun _=>HKE.o)
       ·have k1:(v.num == 1)=false:=by simp[n1]
        have HE3:=zh (show okN (m+1) f v=false by rw[HE2.o];simp[n0,n1]);clear n0 n1;go_wp2_with fail;rw[<-HW7.o];exact HENF.o _ HB7.o HE3.o
     ·have l1:((nk:Int) == 0)=false:=by simp;omega
      have l2:decide (0<(nk:Int))=true:=decide_eq_true (by omega);have HE2:=zh (show okN (m+1) f v=false by rw[HE.o,HNK.o];simp[l0]);go_wp2_with fail;rw[<-HW7.o];exact HENF.o _ HB7.o HE2.o
    ·have HE2:=zh (show okN (m+1) f v=false by rw[HE.o];simp[zdJ t0]);go_wp2_with fail;rw[<-HW7.o];exact HENF.o _ HB7.o HE2.o
  ·as_aux_lemma=>
    have HE:=zh (show okN (m+1) f v=(decide (v.tx.size=0) && (decide (v.kids.length=0) && true)) by rw[HU.o,if_neg (by omega),if_neg (by omega),if_neg (by omega),if_neg (by omega),if_neg (by omega)];rw[if_neg (by omega),if_pos hk]);have q19:(f.k == 19)=false:=by simp;omega
    have r19:(f.k != 19)=true:=by simp;omega
    have q20:(f.k == 20)=false:=by simp;omega
    have r20:(f.k != 20)=true:=by simp;omega
    have q18:(f.k == 18)=false:=by simp;omega
    have r18:(f.k != 18)=true:=by simp;omega
    have q15:(f.k == 15)=false:=by simp;omega
    have r15:(f.k != 15)=true:=by simp;omega
    have q16:(f.k == 16)=false:=by simp;omega
    have r16:(f.k != 16)=true:=by simp;omega
    have q17:(f.k == 17)=false:=by simp;omega
    have r17:(f.k != 17)=true:=by simp;omega
    have q12:(f.k == 12)=false:=by simp;omega
    have r12:(f.k != 12)=true:=by simp;omega
    have q13:(f.k == 13)=false:=by simp;omega
    have r13:(f.k != 13)=true:=by simp;omega
    have q14:(f.k == 14)=false:=by simp;omega
    have r14:(f.k != 14)=true:=by simp;omega
    have q2:(f.k == 2)=false:=by simp;omega
    have r2:(f.k != 2)=true:=by simp;omega
    have q11:(f.k == 11)=true:=by simp[hk]
    have r11:(f.k != 11)=false:=by simp[hk]
    clear hk;by_cases t0:v.tx.toList=[]
    ·have ht0:=zh (zdI t0);by_cases l0:nk=0
     ·subst l0;have HE2:=zh (show okN (m+1) f v=true by rw[HE.o,ht0.o,HNK.o];simp);have HKE:=zh (List.eq_nil_of_length_eq_zero HNK.o);go_wp2_with fail;rw[<-HW7.o];exact HEN0.o true _ HB7.o (by rw[HE2.o]) (fun _=>HKE.o)
     ·have l1:((nk:Int) == 0)=false:=by simp;omega
      have l2:decide (0<(nk:Int))=true:=decide_eq_true (by omega);have HE2:=zh (show okN (m+1) f v=false by rw[HE.o,HNK.o];simp[l0]);go_wp2_with fail;rw[<-HW7.o];exact HENF.o _ HB7.o HE2.o
    ·have HE2:=zh (show okN (m+1) f v=false by rw[HE.o];simp[zdJ t0]);go_wp2_with fail;rw[<-HW7.o];exact HENF.o _ HB7.o HE2.o
  ·as_aux_lemma=>
    have HE:=zh (show okN (m+1) f v=(decide (v.tx.size=0) && (decide (v.kids.length=0) && zdm f.k v.num)) by rw[HU.o,if_neg (by omega),if_neg (by omega),if_neg (by omega),if_neg (by omega),if_neg (by omega)];rw[if_neg (by omega),if_neg (by omega)]);have q19:(f.k == 19)=false:=by simp;omega
    have r19:(f.k != 19)=true:=by simp;omega
    have q20:(f.k == 20)=false:=by simp;omega
    have r20:(f.k != 20)=true:=by simp;omega
    have q18:(f.k == 18)=false:=by simp;omega
    have r18:(f.k != 18)=true:=by simp;omega
    have q15:(f.k == 15)=false:=by simp;omega
    have r15:(f.k != 15)=true:=by simp;omega
    have q16:(f.k == 16)=false:=by simp;omega
    have r16:(f.k != 16)=true:=by simp;omega
    have q17:(f.k == 17)=false:=by simp;omega
    have r17:(f.k != 17)=true:=by simp;omega
    have q12:(f.k == 12)=false:=by simp;omega
    have r12:(f.k != 12)=true:=by simp;omega
    have q13:(f.k == 13)=false:=by simp;omega
    have r13:(f.k != 13)=true:=by simp;omega
    have q14:(f.k == 14)=false:=by simp;omega
    have r14:(f.k != 14)=true:=by simp;omega
    have q2:(f.k == 2)=false:=by simp;omega
    have r2:(f.k != 2)=true:=by simp;omega
    have q11:(f.k == 11)=false:=by simp;omega
    have r11:(f.k != 11)=true:=by simp;omega
    have HRW:=zh (zmE (k:=f.k) (n:=v.num));clear hk;by_cases t0:v.tx.toList=[]
    ·have ht0:=zh (zdI t0);by_cases l0:nk=0
     ·subst l0;have HE2:=zh (show okN (m+1) f v=zdm f.k v.num by rw[HE.o,ht0.o,HNK.o];simp);have HKE:=zh (List.eq_nil_of_length_eq_zero HNK.o);have HCW:=zh (zlG W7 f.k);have va1:=A7.o.row 0 _ rfl;have va2:=A27.o.row 1 _ rfl;by_cases hwh:zfe f.k=true
      ·have HCR:=zh (zkz W7 f.k hwh v.num HNUM.o.num);rw[hwh] at HCW;clear hwh;go_wp2_with fail;rw[<-HW7.o];refine HCW.o.mono ?_;rintro e w9 ⟨rfl,rfl⟩;go_wp2_with fail;refine HCR.o.mono ?_;rintro e w9 ⟨rfl,rfl⟩;go_wp2_with fail;exact HEN0.o _ _ HB7.o (by rw[HE2.o]) (fun _=>HKE.o)
      ·have hwf:zfe f.k=false:=by simpa using hwh
       have HE3:=zh (show okN (m+1) f v=false by rw[HE2.o];exact HRW.o hwf);rw[hwf] at HCW;clear hwf hwh;go_wp2_with fail;rw[<-HW7.o];refine HCW.o.mono ?_;rintro e w9 ⟨rfl,rfl⟩;go_wp2_with fail;exact HENF.o _ HB7.o HE3.o
     ·have l1:((nk:Int) == 0)=false:=by simp;omega
      have l2:decide (0<(nk:Int))=true:=decide_eq_true (by omega);have HE2:=zh (show okN (m+1) f v=false by rw[HE.o,HNK.o];simp[l0]);go_wp2_with fail;rw[<-HW7.o];exact HENF.o _ HB7.o HE2.o
    ·have HE2:=zh (show okN (m+1) f v=false by rw[HE.o];simp[zdJ t0]);go_wp2_with fail;rw[<-HW7.o];exact HENF.o _ HB7.o HE2.o
theorem zep {l:List Vl}{k:Nat}(h:k<l.length):zaA (l.take (k+1))=zaA (l.take k)+wtV l[k]:=by
 rw[List.take_succ_eq_append_getElem h,zdF,zaA,zaA];omega
theorem znL (m:Nat)(ih:znK m):ItC m:=by
 intro inD f l w0 w xb left fp vp fc vc hg hd hk3 hb0 hfar hfk hkv hnum hTab hleft hbx;obtain⟨_,_,e,hfl,hfm,hC⟩:=id hfk;cases e;obtain⟨-,hl1,hl2⟩:=zam hkv;simp only[List.length_map] at hl1;unfold maxLen at hl2 hfm;obtain⟨W1,hW1,a1,hB1⟩:=zao w 24 [.int .i64 f.k,.int .i64 f.wd,.int .i64 f.id,.int .i64 f.ix,.slice fp f.kids.length fc];have hxl:=hbx.lt;have HW1:=zh hW1;have A1:=zh a1;have HB1:=zh hB1;have HX1:=zh (hbx.below hB1 hbx.lt);have HB0:=zh (hb0.trans (hB1.mono hb0.size));have HFAR:=zh hfar;have HC:=zh hC;have HKV:=zh hkv;have HG:=zh hg;have HD:=zh hd;have HNUM:=zh hnum;have HTAB:=zh hTab;have HLE:=zh hleft;have HIH:=zh ih;have hxne:xb≠w.heap.size:=by omega
 obtain⟨PP,hPP⟩:=Fld.nm (zf7 w xb ((f.k=16->(l.length:Int)=f.wd)/\(f.k=17->l.length=f.kids.length)/\∀i (hi:i<l.length),okN m (zan f (if f.k=17 then i else 0)) l[i]=true) (zaA l) left);rw[<-hPP];have HPP:=zh hPP;clear hPP hg hd hb0 hfar hfk hC hkv hnum hTab hbx hW1 a1 hB1 ih hleft;rcases hk3 with hk|hk|hk
 ·as_aux_lemma=>
  have HBAD:Hid (∀W,W1.grownBy W none->¬((f.k=16->(l.length:Int)=f.wd)/\(f.k=17->l.length=f.kids.length))->PP (.returned (.bool false)) W):=zh (fun W h1 h2=>by
   rw[HPP.o];exact⟨false,left,rfl,zad (Below.grownBy HB1.o _) (zdK h1),zaw HX1.o h1,⟨fun h=>(by cases h),fun h=>absurd ⟨h.1.1,h.1.2.1⟩ h2⟩,fun h=>(by cases h)⟩)
  have q16:(f.k == 16)=false:=by simp[hk]
  have q17:(f.k == 17)=false:=by simp[hk]
  have hgood:True:=trivial;have HGOOD:=zh (show(f.k=16->(l.length:Int)=f.wd)/\(f.k=17->l.length=f.kids.length) from⟨fun e=>by omega,fun e=>by omega⟩);obtain⟨⟨g1,-,-,-⟩,g5⟩:=zbp.1 HG.o;have HX:Hid (∀k,k<l.length->0<f.kids.length):=zh (fun k hk'=>by
   have:=zaW g1 (by omega:f.k=15\/f.k=16\/f.k=19\/f.k=20);omega)
  have HG5:=zh g5;have HK:=zh (show ∀i:Nat,(if f.k=17 then i else 0)=0 from fun i=>if_neg (by omega));clear g1 g5 hk hgood
  go_in
  go_wp2_with fail;rw[<-HW1.o]
  go_loopw [35] (fun i wr=>∃(k:Nat) (y:Int),k<=l.length/\i=.int .i64 k/\Hid (W1.grownBy wr (some xb))/\Hid (BoxN wr xb 265 [.int .i64 y])/\Hid (BoxN wr w.heap.size 24 [.int .i64 f.k,.int .i64 f.wd,.int .i64 f.id,.int .i64 f.ix,.slice fp f.kids.length fc])/\Hid (y=left-zaA (l.take k))/\Hid (0<=y)/\Hid (∀j (hj:j<l.length),j<k->okN m (zan f 0) l[j]=true)) (fun i _=>l.length-(intOf i).toNat)
  case atStart=>exact⟨0,left,by omega,rfl,zh (zdn _),HX1,A1,zh (by rw[List.take_zero,zaA];omega),zh HLE.o.1,zh (fun j _ h=>by omega)⟩
  case round=>
   obtain⟨k,y,hkN,rfl,HGR,HXR,HTR,HYR,HY0,HOK⟩:=hrel;have HBR:=zh (zdj HGR.o HB0.o HFAR.o);have v0:=HTR.o.row 0 _ rfl;have v4:=HTR.o.row 4 _ rfl;have hltT:=HTR.o.lt;by_cases hlt:k<l.length
   ·have hj:=HX.o k hlt;have hjI:((0:Nat):Int)<(f.kids.length:Int):=by omega
    have hkI:(k:Int)<(l.length:Int):=by omega
    obtain⟨kb,ko,q,c,rfl,e3,c0,c1,c2,c3,c4,c5,c6⟩:=HC.o.seven 0 hj;obtain⟨ab,ao,aq,aqc,rfl,-,s0,s1,s2,s3,hu⟩:=zcI HKV.o k hlt
    try simp only[Nat.zero_mul,Nat.add_zero] at c0 c1 c2 c3 c4 c5 c6
    have HE3:=zh e3;have HU3:=zh hu;have HGK:=zh (zbj HG5.o _ (List.getElem_mem hj));have HDK:=zh (show zau f.kids[0]<=m by have h1:=HD.o;have h2:=zc2 (List.getElem_mem hj);omega);have HNU:=zh (HNUM.o _ (List.getElem_mem hlt));have HKID:=zh (show zan f 0=f.kids[0] by unfold zan;rw[List.getElem?_eq_getElem hj];rfl);have HWT:=zh (zep hlt);have HWD:=zh (show zaA (l.take k)+wtV l[k]<=zaA l by
     have h1:=zdF (l.take (k+1)) (l.drop (k+1));rw[List.take_append_drop,zep hlt] at h1;have h2:=zbQ (l.drop (k+1));omega)
    have HST:Hid (okN m f.kids[0] l[k]=true->∀j (hj:j<l.length),j<k+1->okN m (zan f 0) l[j]=true):=zh (fun h j hj hjk=>by
     by_cases e:j=k
     ·subst e;rw[HKID.o];exact h
     ·exact HOK.o j hj (by omega))
    have HNO:Hid (okN m f.kids[0] l[k]=false->¬ ∀i (hi:i<l.length),okN m (zan f (if f.k=17 then i else 0)) l[i]=true):=zh (fun h h2=>by
     have:=h2 k hlt;rw[HK.o k,HKID.o,h] at this;cases this)
    generalize f.kids[0]=g at *;generalize l[k]=u at *;obtain⟨W2,hW2,a2,hB2⟩:=zao wr 39 (Fld.v4 u aq aqc);have HW2:=zh hW2;have A2:=zh a2;have HX2:=zh (HXR.o.below hB2 HXR.o.lt);have HT2:=zh (HTR.o.below hB2 HTR.o.lt);have HBR2:=zh (HBR.o.trans (hB2.mono HBR.o.size));have HGR2:=zh (zad HGR.o (Below.grownBy hB2 _));have hxr:=HXR.o.lt;have HIK:Hid (∀t,Calls Tryz.prog 189 #[.pointer (some ⟨xb,0,none⟩),.agg #[.string g.nm,.bool g.nl,.int .i64 g.k,.int .i64 g.wd,.int .i64 g.id,.int .i64 g.ix,.slice q g.kids.length c],.agg #[.bool u.nl,.int .i64 u.num,.string u.tx,.slice aq u.kids.length aqc]] (W2.drewN t) (zf7 (W2.drewN t) xb (okN m g u=true) (wtV u) y)):=zh (fun t=>
     HIH.o _ g u w0 (W2.drewN t) xb y _ _ HGK.o HDK.o (zab HBR2.o t) HFAR.o HE3.o HU3.o HNU.o HTAB.o ⟨HY0.o,by have h1:=HYR.o;have h2:=zbQ (l.take k);have h3:=HLE.o;omega⟩ (zaw HX2.o (zaj _ _ _)))
    have c0':=zaa HBR2.o c0;have c1':=zaa HBR2.o c1;have c2':=zaa HBR2.o c2;have c3':=zaa HBR2.o c3;have c4':=zaa HBR2.o c4;have c5':=zaa HBR2.o c5;have c6':=zaa HBR2.o c6;replace s0:=zaa HBR.o s0;replace s1:=zaa HBR.o s1;replace s2:=zaa HBR.o s2;replace s3:=zaa HBR.o s3;clear c0 c1 c2 c3 c4 c5 c6 hW2 a2 hB2 e3 hu;go_wp2_with fail;rw[<-HW2.o];clear s0 s1 s2 s3 v0 v4;obtain⟨u0,u1,u2,u3⟩:=rr4 A2.o.row;have v4:=HT2.o.row 4 _ rfl;refine Mix.region 9 (by kernel_rfl) rfl ?_;refine Mix.phase2 (ft:=2) (ph:=[0,1,2,3,4,5,6]) (by repeat constructor) (by kernel_rfl) ?_
    repeat (go_big_quiet_step (fail))
    refine wpQuiet_nil ?_;rintro _ ⟨nt,rfl⟩;refine Mix.alone (i:=7) (by kernel_rfl) rfl (by rfl) (fun K hK=>?_)
    go_step
    refine(HIK.o (1+nt)).mono ?_;rintro e W9 ⟨bb,y',rfl,g9,bx9,i9,j9⟩;have hg9:=zad (zaj W2 (1+nt) (some xb)) g9;have HG9:=zh (zad HGR2.o hg9);have HX9:=zh bx9;have HT9:=zh (HT2.o.kept hg9 (fun e=>by have h1:=Option.some.inj e;omega));have HI9:=zh i9;have HJ9:=zh j9;clear g9 bx9 i9 j9 hg9;refine hK _ _ ?_;clear hK K u0 u1 u2 u3 v4;cases bb with
    | true=>
     refine Mix.phase2 (ft:=0) (ph:=[8]) (.cons rfl .nil) (by kernel_rfl) ?_
     repeat (go_big_quiet_step (fail))
     refine wpQuiet_nil ?_;rintro _ ⟨nu,rfl⟩;refine Mix.done (by kernel_rfl) ?_;go_wp2_with fail;refine⟨⟨k+1,y',by omega,by go_num,zh (zad HG9.o (zaj _ _ _)),zh (zaw HX9.o (zaj _ _ _)),zh (zaw HT9.o (zaj _ _ _)),zh ?_,zh ?_,zh (HST.o (HI9.o.1 rfl).1)⟩,by simp[intOf];omega⟩
     ·have h1:=HJ9.o rfl;have h2:=HYR.o;have h3:=HWT.o;omega
     ·have h1:=HJ9.o rfl;have h2:=(HI9.o.1 rfl).2;omega
    | false=>
     refine Mix.phase2 (ft:=0) (ph:=[8]) (.cons rfl .nil) (by kernel_rfl) ?_
     repeat (go_big_quiet_step (fail))
     refine wpQuiet_nil ?_;rintro _ ⟨nu,rfl⟩;refine Mix.done (by kernel_rfl) ?_;go_wp2_with fail;rw[HPP.o];refine⟨false,y',rfl,zad (Below.grownBy HB1.o _) (zad HG9.o (zaj _ _ _)),zaw HX9.o (zaj _ _ _),⟨fun h=>(by cases h),fun h=>?_⟩,fun h=>(by cases h)⟩;have h1:=HWD.o;have h2:=HYR.o;cases hok:okN m g u with
     | true=>exact HI9.o.2 ⟨hok,by omega⟩
     | false=>exact absurd h.1.2.2 (HNO.o hok)
   ·have hkl:k=l.length:=by omega
    have HE4:=zh (show y=left-zaA l by have:=HYR.o;rwa [hkl,List.take_length] at this);have HOK2:=zh (show ∀i (hi:i<l.length),okN m (zan f (if f.k=17 then i else 0)) l[i]=true from fun i hi=>by rw[HK.o i];exact HOK.o i hi (by omega));clear hkl;go_wp2_with fail;rw[HPP.o];exact⟨true,y,rfl,zad (Below.grownBy HB1.o _) HGR.o,HXR.o,⟨fun _=>⟨⟨HGOOD.o.1,HGOOD.o.2,HOK2.o⟩,by have h1:=HE4.o;have h2:=HY0.o;omega⟩,fun _=>rfl⟩,fun _=>HE4.o⟩
 ·as_aux_lemma=>
  have HBAD:Hid (∀W,W1.grownBy W none->¬((f.k=16->(l.length:Int)=f.wd)/\(f.k=17->l.length=f.kids.length))->PP (.returned (.bool false)) W):=zh (fun W h1 h2=>by
   rw[HPP.o];exact⟨false,left,rfl,zad (Below.grownBy HB1.o _) (zdK h1),zaw HX1.o h1,⟨fun h=>(by cases h),fun h=>absurd ⟨h.1.1,h.1.2.1⟩ h2⟩,fun h=>(by cases h)⟩)
  have q16:(f.k == 16)=true:=by simp[hk]
  have q17:(f.k == 17)=false:=by simp[hk]
  by_cases hgood:(l.length:Int)=f.wd;rotate_left
  ·have qb:((l.length:Int) != f.wd)=true:=by simp[hgood]
   have HBB:=zh (show ¬((f.k=16->(l.length:Int)=f.wd)/\(f.k=17->l.length=f.kids.length)) from fun h=>hgood (h.1 hk));clear hk hgood
   go_in
   go_wp2_with fail;rw[<-HW1.o];exact HBAD.o _ (zdn _) HBB.o
  have qb:((l.length:Int) != f.wd)=false:=by simp[hgood]
  have HGOOD:=zh (show(f.k=16->(l.length:Int)=f.wd)/\(f.k=17->l.length=f.kids.length) from⟨fun _=>hgood,fun e=>by omega⟩);obtain⟨⟨g1,-,-,-⟩,g5⟩:=zbp.1 HG.o;have HX:Hid (∀k,k<l.length->0<f.kids.length):=zh (fun k hk'=>by
   have:=zaW g1 (by omega:f.k=15\/f.k=16\/f.k=19\/f.k=20);omega)
  have HG5:=zh g5;have HK:=zh (show ∀i:Nat,(if f.k=17 then i else 0)=0 from fun i=>if_neg (by omega));clear g1 g5 hk hgood
  go_in
  go_wp2_with fail;rw[<-HW1.o]
  go_loopw [35] (fun i wr=>∃(k:Nat) (y:Int),k<=l.length/\i=.int .i64 k/\Hid (W1.grownBy wr (some xb))/\Hid (BoxN wr xb 265 [.int .i64 y])/\Hid (BoxN wr w.heap.size 24 [.int .i64 f.k,.int .i64 f.wd,.int .i64 f.id,.int .i64 f.ix,.slice fp f.kids.length fc])/\Hid (y=left-zaA (l.take k))/\Hid (0<=y)/\Hid (∀j (hj:j<l.length),j<k->okN m (zan f 0) l[j]=true)) (fun i _=>l.length-(intOf i).toNat)
  case atStart=>exact⟨0,left,by omega,rfl,zh (zdn _),HX1,A1,zh (by rw[List.take_zero,zaA];omega),zh HLE.o.1,zh (fun j _ h=>by omega)⟩
  case round=>
   obtain⟨k,y,hkN,rfl,HGR,HXR,HTR,HYR,HY0,HOK⟩:=hrel;have HBR:=zh (zdj HGR.o HB0.o HFAR.o);have v0:=HTR.o.row 0 _ rfl;have v4:=HTR.o.row 4 _ rfl;have hltT:=HTR.o.lt;by_cases hlt:k<l.length
   ·have hj:=HX.o k hlt;have hjI:((0:Nat):Int)<(f.kids.length:Int):=by omega
    have hkI:(k:Int)<(l.length:Int):=by omega
    obtain⟨kb,ko,q,c,rfl,e3,c0,c1,c2,c3,c4,c5,c6⟩:=HC.o.seven 0 hj;obtain⟨ab,ao,aq,aqc,rfl,-,s0,s1,s2,s3,hu⟩:=zcI HKV.o k hlt
    try simp only[Nat.zero_mul,Nat.add_zero] at c0 c1 c2 c3 c4 c5 c6
    have HE3:=zh e3;have HU3:=zh hu;have HGK:=zh (zbj HG5.o _ (List.getElem_mem hj));have HDK:=zh (show zau f.kids[0]<=m by have h1:=HD.o;have h2:=zc2 (List.getElem_mem hj);omega);have HNU:=zh (HNUM.o _ (List.getElem_mem hlt));have HKID:=zh (show zan f 0=f.kids[0] by unfold zan;rw[List.getElem?_eq_getElem hj];rfl);have HWT:=zh (zep hlt);have HWD:=zh (show zaA (l.take k)+wtV l[k]<=zaA l by
     have h1:=zdF (l.take (k+1)) (l.drop (k+1));rw[List.take_append_drop,zep hlt] at h1;have h2:=zbQ (l.drop (k+1));omega)
    have HST:Hid (okN m f.kids[0] l[k]=true->∀j (hj:j<l.length),j<k+1->okN m (zan f 0) l[j]=true):=zh (fun h j hj hjk=>by
     by_cases e:j=k
     ·subst e;rw[HKID.o];exact h
     ·exact HOK.o j hj (by omega))
    have HNO:Hid (okN m f.kids[0] l[k]=false->¬ ∀i (hi:i<l.length),okN m (zan f (if f.k=17 then i else 0)) l[i]=true):=zh (fun h h2=>by
     have:=h2 k hlt;rw[HK.o k,HKID.o,h] at this;cases this)
    generalize f.kids[0]=g at *;generalize l[k]=u at *;obtain⟨W2,hW2,a2,hB2⟩:=zao wr 39 (Fld.v4 u aq aqc);have HW2:=zh hW2;have A2:=zh a2;have HX2:=zh (HXR.o.below hB2 HXR.o.lt);have HT2:=zh (HTR.o.below hB2 HTR.o.lt);have HBR2:=zh (HBR.o.trans (hB2.mono HBR.o.size));have HGR2:=zh (zad HGR.o (Below.grownBy hB2 _));have hxr:=HXR.o.lt;have HIK:Hid (∀t,Calls Tryz.prog 189 #[.pointer (some ⟨xb,0,none⟩),.agg #[.string g.nm,.bool g.nl,.int .i64 g.k,.int .i64 g.wd,.int .i64 g.id,.int .i64 g.ix,.slice q g.kids.length c],.agg #[.bool u.nl,.int .i64 u.num,.string u.tx,.slice aq u.kids.length aqc]] (W2.drewN t) (zf7 (W2.drewN t) xb (okN m g u=true) (wtV u) y)):=zh (fun t=>
     HIH.o _ g u w0 (W2.drewN t) xb y _ _ HGK.o HDK.o (zab HBR2.o t) HFAR.o HE3.o HU3.o HNU.o HTAB.o ⟨HY0.o,by have h1:=HYR.o;have h2:=zbQ (l.take k);have h3:=HLE.o;omega⟩ (zaw HX2.o (zaj _ _ _)))
    have c0':=zaa HBR2.o c0;have c1':=zaa HBR2.o c1;have c2':=zaa HBR2.o c2;have c3':=zaa HBR2.o c3;have c4':=zaa HBR2.o c4;have c5':=zaa HBR2.o c5;have c6':=zaa HBR2.o c6;replace s0:=zaa HBR.o s0;replace s1:=zaa HBR.o s1;replace s2:=zaa HBR.o s2;replace s3:=zaa HBR.o s3;clear c0 c1 c2 c3 c4 c5 c6 hW2 a2 hB2 e3 hu;go_wp2_with fail;rw[<-HW2.o];clear s0 s1 s2 s3 v0 v4;obtain⟨u0,u1,u2,u3⟩:=rr4 A2.o.row;have v4:=HT2.o.row 4 _ rfl;refine Mix.region 9 (by kernel_rfl) rfl ?_;refine Mix.phase2 (ft:=2) (ph:=[0,1,2,3,4,5,6]) (by repeat constructor) (by kernel_rfl) ?_
    repeat (go_big_quiet_step (fail))
    refine wpQuiet_nil ?_;rintro _ ⟨nt,rfl⟩;refine Mix.alone (i:=7) (by kernel_rfl) rfl (by rfl) (fun K hK=>?_)
    go_step
    refine(HIK.o (1+nt)).mono ?_;rintro e W9 ⟨bb,y',rfl,g9,bx9,i9,j9⟩;have hg9:=zad (zaj W2 (1+nt) (some xb)) g9;have HG9:=zh (zad HGR2.o hg9);have HX9:=zh bx9;have HT9:=zh (HT2.o.kept hg9 (fun e=>by have h1:=Option.some.inj e;omega));have HI9:=zh i9;have HJ9:=zh j9;clear g9 bx9 i9 j9 hg9;refine hK _ _ ?_;clear hK K u0 u1 u2 u3 v4;cases bb with
    | true=>
     refine Mix.phase2 (ft:=0) (ph:=[8]) (.cons rfl .nil) (by kernel_rfl) ?_
     repeat (go_big_quiet_step (fail))
     refine wpQuiet_nil ?_;rintro _ ⟨nu,rfl⟩;refine Mix.done (by kernel_rfl) ?_;go_wp2_with fail;refine⟨⟨k+1,y',by omega,by go_num,zh (zad HG9.o (zaj _ _ _)),zh (zaw HX9.o (zaj _ _ _)),zh (zaw HT9.o (zaj _ _ _)),zh ?_,zh ?_,zh (HST.o (HI9.o.1 rfl).1)⟩,by simp[intOf];omega⟩
     ·have h1:=HJ9.o rfl;have h2:=HYR.o;have h3:=HWT.o;omega
     ·have h1:=HJ9.o rfl;have h2:=(HI9.o.1 rfl).2;omega
    | false=>
     refine Mix.phase2 (ft:=0) (ph:=[8]) (.cons rfl .nil) (by kernel_rfl) ?_
     repeat (go_big_quiet_step (fail))
     refine wpQuiet_nil ?_;rintro _ ⟨nu,rfl⟩;refine Mix.done (by kernel_rfl) ?_;go_wp2_with fail;rw[HPP.o];refine⟨false,y',rfl,zad (Below.grownBy HB1.o _) (zad HG9.o (zaj _ _ _)),zaw HX9.o (zaj _ _ _),⟨fun h=>(by cases h),fun h=>?_⟩,fun h=>(by cases h)⟩;have h1:=HWD.o;have h2:=HYR.o;cases hok:okN m g u with
     | true=>exact HI9.o.2 ⟨hok,by omega⟩
     | false=>exact absurd h.1.2.2 (HNO.o hok)
   ·have hkl:k=l.length:=by omega
    have HE4:=zh (show y=left-zaA l by have:=HYR.o;rwa [hkl,List.take_length] at this);have HOK2:=zh (show ∀i (hi:i<l.length),okN m (zan f (if f.k=17 then i else 0)) l[i]=true from fun i hi=>by rw[HK.o i];exact HOK.o i hi (by omega));clear hkl;go_wp2_with fail;rw[HPP.o];exact⟨true,y,rfl,zad (Below.grownBy HB1.o _) HGR.o,HXR.o,⟨fun _=>⟨⟨HGOOD.o.1,HGOOD.o.2,HOK2.o⟩,by have h1:=HE4.o;have h2:=HY0.o;omega⟩,fun _=>rfl⟩,fun _=>HE4.o⟩
 ·as_aux_lemma=>
  have HBAD:Hid (∀W,W1.grownBy W none->¬((f.k=16->(l.length:Int)=f.wd)/\(f.k=17->l.length=f.kids.length))->PP (.returned (.bool false)) W):=zh (fun W h1 h2=>by
   rw[HPP.o];exact⟨false,left,rfl,zad (Below.grownBy HB1.o _) (zdK h1),zaw HX1.o h1,⟨fun h=>(by cases h),fun h=>absurd ⟨h.1.1,h.1.2.1⟩ h2⟩,fun h=>(by cases h)⟩)
  have q16:(f.k == 16)=false:=by simp[hk]
  have q17:(f.k == 17)=true:=by simp[hk]
  by_cases hgood:l.length=f.kids.length;rotate_left
  ·have qb:((l.length:Int) != (f.kids.length:Int))=true:=by simp;omega
   have HBB:=zh (show ¬((f.k=16->(l.length:Int)=f.wd)/\(f.k=17->l.length=f.kids.length)) from fun h=>hgood (h.2 hk));clear hk hgood
   go_in
   go_wp2_with fail;rw[<-HW1.o];exact HBAD.o _ (zdn _) HBB.o
  have qb:((l.length:Int) != (f.kids.length:Int))=false:=by simp;omega
  have HGOOD:=zh (show(f.k=16->(l.length:Int)=f.wd)/\(f.k=17->l.length=f.kids.length) from⟨fun e=>by omega,fun _=>hgood⟩);obtain⟨⟨g1,-,-,-⟩,g5⟩:=zbp.1 HG.o;have HX:Hid (∀k,k<l.length->k<f.kids.length):=zh (fun k hk'=>by
   omega)
  have HG5:=zh g5;have HK:=zh (show ∀i:Nat,(if f.k=17 then i else 0)=i from fun i=>if_pos hk);clear g1 g5 hk hgood
  go_in
  go_wp2_with fail;rw[<-HW1.o]
  go_loopw [35] (fun i wr=>∃(k:Nat) (y:Int),k<=l.length/\i=.int .i64 k/\Hid (W1.grownBy wr (some xb))/\Hid (BoxN wr xb 265 [.int .i64 y])/\Hid (BoxN wr w.heap.size 24 [.int .i64 f.k,.int .i64 f.wd,.int .i64 f.id,.int .i64 f.ix,.slice fp f.kids.length fc])/\Hid (y=left-zaA (l.take k))/\Hid (0<=y)/\Hid (∀j (hj:j<l.length),j<k->okN m (zan f j) l[j]=true)) (fun i _=>l.length-(intOf i).toNat)
  case atStart=>exact⟨0,left,by omega,rfl,zh (zdn _),HX1,A1,zh (by rw[List.take_zero,zaA];omega),zh HLE.o.1,zh (fun j _ h=>by omega)⟩
  case round=>
   obtain⟨k,y,hkN,rfl,HGR,HXR,HTR,HYR,HY0,HOK⟩:=hrel;have HBR:=zh (zdj HGR.o HB0.o HFAR.o);have v0:=HTR.o.row 0 _ rfl;have v4:=HTR.o.row 4 _ rfl;have hltT:=HTR.o.lt;by_cases hlt:k<l.length
   ·have hj:=HX.o k hlt;have hjI:((k:Nat):Int)<(f.kids.length:Int):=by omega
    have hkI:(k:Int)<(l.length:Int):=by omega
    obtain⟨kb,ko,q,c,rfl,e3,c0,c1,c2,c3,c4,c5,c6⟩:=HC.o.seven k hj;obtain⟨ab,ao,aq,aqc,rfl,-,s0,s1,s2,s3,hu⟩:=zcI HKV.o k hlt
    try simp only[Nat.zero_mul,Nat.add_zero] at c0 c1 c2 c3 c4 c5 c6
    have HE3:=zh e3;have HU3:=zh hu;have HGK:=zh (zbj HG5.o _ (List.getElem_mem hj));have HDK:=zh (show zau f.kids[k]<=m by have h1:=HD.o;have h2:=zc2 (List.getElem_mem hj);omega);have HNU:=zh (HNUM.o _ (List.getElem_mem hlt));have HKID:=zh (show zan f k=f.kids[k] by unfold zan;rw[List.getElem?_eq_getElem hj];rfl);have HWT:=zh (zep hlt);have HWD:=zh (show zaA (l.take k)+wtV l[k]<=zaA l by
     have h1:=zdF (l.take (k+1)) (l.drop (k+1));rw[List.take_append_drop,zep hlt] at h1;have h2:=zbQ (l.drop (k+1));omega)
    have HST:Hid (okN m f.kids[k] l[k]=true->∀j (hj:j<l.length),j<k+1->okN m (zan f j) l[j]=true):=zh (fun h j hj hjk=>by
     by_cases e:j=k
     ·subst e;rw[HKID.o];exact h
     ·exact HOK.o j hj (by omega))
    have HNO:Hid (okN m f.kids[k] l[k]=false->¬ ∀i (hi:i<l.length),okN m (zan f (if f.k=17 then i else 0)) l[i]=true):=zh (fun h h2=>by
     have:=h2 k hlt;rw[HK.o k,HKID.o,h] at this;cases this)
    generalize f.kids[k]=g at *;generalize l[k]=u at *;obtain⟨W2,hW2,a2,hB2⟩:=zao wr 39 (Fld.v4 u aq aqc);have HW2:=zh hW2;have A2:=zh a2;have HX2:=zh (HXR.o.below hB2 HXR.o.lt);have HT2:=zh (HTR.o.below hB2 HTR.o.lt);have HBR2:=zh (HBR.o.trans (hB2.mono HBR.o.size));have HGR2:=zh (zad HGR.o (Below.grownBy hB2 _));have hxr:=HXR.o.lt;have HIK:Hid (∀t,Calls Tryz.prog 189 #[.pointer (some ⟨xb,0,none⟩),.agg #[.string g.nm,.bool g.nl,.int .i64 g.k,.int .i64 g.wd,.int .i64 g.id,.int .i64 g.ix,.slice q g.kids.length c],.agg #[.bool u.nl,.int .i64 u.num,.string u.tx,.slice aq u.kids.length aqc]] (W2.drewN t) (zf7 (W2.drewN t) xb (okN m g u=true) (wtV u) y)):=zh (fun t=>
     HIH.o _ g u w0 (W2.drewN t) xb y _ _ HGK.o HDK.o (zab HBR2.o t) HFAR.o HE3.o HU3.o HNU.o HTAB.o ⟨HY0.o,by have h1:=HYR.o;have h2:=zbQ (l.take k);have h3:=HLE.o;omega⟩ (zaw HX2.o (zaj _ _ _)))
    have c0':=zaa HBR2.o c0;have c1':=zaa HBR2.o c1;have c2':=zaa HBR2.o c2;have c3':=zaa HBR2.o c3;have c4':=zaa HBR2.o c4;have c5':=zaa HBR2.o c5;have c6':=zaa HBR2.o c6;replace s0:=zaa HBR.o s0;replace s1:=zaa HBR.o s1;replace s2:=zaa HBR.o s2;replace s3:=zaa HBR.o s3;clear c0 c1 c2 c3 c4 c5 c6 hW2 a2 hB2 e3 hu;go_wp2_with fail;rw[<-HW2.o];clear s0 s1 s2 s3 v0 v4;obtain⟨u0,u1,u2,u3⟩:=rr4 A2.o.row;have v4:=HT2.o.row 4 _ rfl;refine Mix.region 9 (by kernel_rfl) rfl ?_;refine Mix.phase2 (ft:=2) (ph:=[0,1,2,3,4,5,6]) (by repeat constructor) (by kernel_rfl) ?_
    repeat (go_big_quiet_step (fail))
    refine wpQuiet_nil ?_;rintro _ ⟨nt,rfl⟩;refine Mix.alone (i:=7) (by kernel_rfl) rfl (by rfl) (fun K hK=>?_)
    go_step
    refine(HIK.o (1+nt)).mono ?_;rintro e W9 ⟨bb,y',rfl,g9,bx9,i9,j9⟩;have hg9:=zad (zaj W2 (1+nt) (some xb)) g9;have HG9:=zh (zad HGR2.o hg9);have HX9:=zh bx9;have HT9:=zh (HT2.o.kept hg9 (fun e=>by have h1:=Option.some.inj e;omega));have HI9:=zh i9;have HJ9:=zh j9;clear g9 bx9 i9 j9 hg9;refine hK _ _ ?_;clear hK K u0 u1 u2 u3 v4;cases bb with
    | true=>
     refine Mix.phase2 (ft:=0) (ph:=[8]) (.cons rfl .nil) (by kernel_rfl) ?_
     repeat (go_big_quiet_step (fail))
     refine wpQuiet_nil ?_;rintro _ ⟨nu,rfl⟩;refine Mix.done (by kernel_rfl) ?_;go_wp2_with fail;refine⟨⟨k+1,y',by omega,by go_num,zh (zad HG9.o (zaj _ _ _)),zh (zaw HX9.o (zaj _ _ _)),zh (zaw HT9.o (zaj _ _ _)),zh ?_,zh ?_,zh (HST.o (HI9.o.1 rfl).1)⟩,by simp[intOf];omega⟩
     ·have h1:=HJ9.o rfl;have h2:=HYR.o;have h3:=HWT.o;omega
     ·have h1:=HJ9.o rfl;have h2:=(HI9.o.1 rfl).2;omega
    | false=>
     refine Mix.phase2 (ft:=0) (ph:=[8]) (.cons rfl .nil) (by kernel_rfl) ?_
     repeat (go_big_quiet_step (fail))
     refine wpQuiet_nil ?_;rintro _ ⟨nu,rfl⟩;refine Mix.done (by kernel_rfl) ?_;go_wp2_with fail;rw[HPP.o];refine⟨false,y',rfl,zad (Below.grownBy HB1.o _) (zad HG9.o (zaj _ _ _)),zaw HX9.o (zaj _ _ _),⟨fun h=>(by cases h),fun h=>?_⟩,fun h=>(by cases h)⟩;have h1:=HWD.o;have h2:=HYR.o;cases hok:okN m g u with
     | true=>exact HI9.o.2 ⟨hok,by omega⟩
     | false=>exact absurd h.1.2.2 (HNO.o hok)
   ·have hkl:k=l.length:=by omega
    have HE4:=zh (show y=left-zaA l by have:=HYR.o;rwa [hkl,List.take_length] at this);have HOK2:=zh (show ∀i (hi:i<l.length),okN m (zan f (if f.k=17 then i else 0)) l[i]=true from fun i hi=>by rw[HK.o i];exact HOK.o i hi (by omega));clear hkl;go_wp2_with fail;rw[HPP.o];exact⟨true,y,rfl,zad (Below.grownBy HB1.o _) HGR.o,HXR.o,⟨fun _=>⟨⟨HGOOD.o.1,HGOOD.o.2,HOK2.o⟩,by have h1:=HE4.o;have h2:=HY0.o;omega⟩,fun _=>rfl⟩,fun _=>HE4.o⟩
theorem zp3:∀m,znK m
 | 0=>fun inD f v w0 w xb left fs cs _ hd=>by
  cases f with
  | mk nm nl k wd id ix kids=>rw[zau] at hd;omega
 | m+1=>zoW m (zp3 m) (znL m (zp3 m))
def zfQ (M:Nat)(f:Fd)(v:Vl):Bool:=okN M f v && decide (wtV v<=4194304)
def zbs (M:Nat)(f:Fd)(a b:Vl):Int:=if zbN f=false then 0 else if zfQ M f a=false\/zfQ M f b=false then 0 else zbw M f a b
theorem zhJ {M:Nat}{f:Fd}{v:Vl}:zfQ M f v=true↔okN M f v=true/\wtV v<=4194304:=by
 unfold zfQ;simp
theorem zik {M:Nat}{inD:Bool}{w:World}{f:Fd}{v:Vl}{fs cs:List Value}(hg:zck inD f)(hd:zau f<=M)(hf:FdAt w f fs)(hv:VAt (fun _=>True) w v cs)(hn:NumI v)(hT:Lib.Utf8Tabs 1 2 w) :
  Calls Tryz.prog 187 #[.agg fs.toArray,.agg cs.toArray] w (zaM w (.bool (zfQ M f v))):=by
 obtain⟨fp,fc,rfl,-⟩:=hf.shape;obtain⟨vp,vc,rfl,-⟩:=hv.shape;obtain⟨W3,hW3,a1,a2,a3,hB3⟩:=zbG w 26 (Fld.f7 f fp fc) 39 (Fld.v4 v vp vc) 265 [.int .i64 4194304];have HW3:=zh hW3;have HB3:=zh hB3;have HC:=zh (zp3 M inD f v w W3 _ 4194304 _ _ hg hd hB3 (by omega) hf hv hn hT ⟨by decide,by decide⟩ a3);clear hg hf hv hn hT hW3 a1 a2 a3 hB3;obtain⟨G,hG⟩:=Fld.nm (zfQ M f v);rw[<-hG];have HG:=zh hG;clear hG
 go_in
 go_wp2_with fail;rw[<-HW3.o];refine HC.o.mono ?_;rintro e W4 ⟨bb,y,rfl,g4,bx4,i4,j4⟩;have HB4:=zh (zdj g4 HB3.o (by omega));have HE:=zh (show bb=G by rw[HG.o,Bool.eq_iff_iff,zhJ];exact i4);clear g4 bx4 i4 j4;go_wp2_with fail;rw[<-HE.o];go_ret;exact⟨rfl,HB4.o⟩
theorem zri {fn:Func}{i j:Nat}(hfn:fn.results=#[.tmp i,.tmp j]){W:World}{tmps:Array Value}{u v:Value}(hu:tmps.getD i undef=u)(hv:tmps.getD j undef=v) :
  (results fn tmps).run Tryz.prog W=.ok (.tuple #[u,v]) W:=by
 rw[Array.getD_eq_getD_getElem?] at hu hv;simp[results,hfn,go_sem,hu,hv]
def zjG (w:World)(c:Int)(e:Ending)(w':World):Prop:=∃er:Int,e=.returned (.tuple #[.int .i64 c,.int .i64 er])/\Below w.heap.size w w'
theorem zgN {fn:Func}(hfn:fn.results=#[.tmp 6,.tmp 7]){w W:World}{c er:Int}(hB:Below w.heap.size w W){tmps:Array Value}(h6:tmps.getD 6 undef=.int .i64 c)(h7:tmps.getD 7 undef=.int .i64 er):bodyPost Tryz.prog fn (zjG w c) Exit.ret { tmps:=tmps,defers:=[] } W:=
 bodyPost_ret (zri hfn h6 h7) rfl ⟨er,rfl,hB⟩
theorem znM {M:Nat}{w:World}{f:Fd}{a b:Vl}{fs cs ds:List Value}(hd:zau f<=M)(hf:FdAt w f fs)(ha:VAt (fun _=>True) w a cs)(hb:VAt (fun _=>True) w b ds)(na:NumI a)(nb:NumI b)(hS:SaysAt w)(hT:Lib.Utf8Tabs 1 2 w) :
  Calls Tryz.prog 185 #[.agg fs.toArray,.agg cs.toArray,.agg ds.toArray] w (zjG w (zbs M f a b)):=by
 obtain⟨fp,fc,rfl,-⟩:=hf.shape;obtain⟨ap,ac,rfl,-⟩:=ha.shape;obtain⟨bp,bc,rfl,-⟩:=hb.shape;obtain⟨W3,hW3,a1,a2,a3,hB3⟩:=zbG w 26 (Fld.f7 f fp fc) 39 (Fld.v4 a ap ac) 39 (Fld.v4 b bp bc);have HW3:=zh hW3;have HB3:=zh hB3;have A1:=zh a1;have A2:=zh a2;have A3:=zh a3;have HF:=zh hf;have HA:=zh ha;have HB:=zh hb;have HNA:=zh na;have HNB:=zh nb;have HS:=zh hS;have HT:=zh hT;have HM:=zh (znH (hf.below hB3) (hS.below hB3));obtain⟨R,hR⟩:=Fld.nm (zbs M f a b);rw[<-hR];have HR:=zh hR;clear hf ha hb na nb hS hT hW3 a1 a2 a3 hB3 hR
 go_in
 go_wp2_with fail;rw[<-HW3.o];refine HM.o.mono ?_;rintro e W4 ⟨rfl,hb4⟩;have HB4:=zh (HB3.o.trans (hb4.mono HB3.o.size));have B1:=zh (A1.o.below hb4 A1.o.lt);have B2:=zh (A2.o.below hb4 A2.o.lt);have B3:=zh (A3.o.below hb4 A3.o.lt);clear hb4;by_cases hm:zbN f=false
 ·have HE:=zh (show R=0 by rw[HR.o];unfold zbs;rw[if_pos hm]);rw[hm];clear hm;go_wp2_with fail;rw[HE.o];exact zgN rfl HB4.o rfl rfl
 have hm1:zbN f=true:=by simpa using hm
 have HMM:=zh hm1;rw[hm1];clear hm hm1;have HGA:=zh (zik (w:=W4) (zf6 HMM.o) hd (HF.o.below HB4.o) (HA.o.below HB4.o) HNA.o (Utf8Tabs_below HT.o HB4.o));obtain⟨x0,x1,x2,x3,x4,x5,x6⟩:=rr7 B1.o.row;obtain⟨y0,y1,y2,y3⟩:=rr4 B2.o.row;go_wp2_with fail;refine HGA.o.mono ?_;rintro e W5 ⟨rfl,hb5⟩;have HB5:=zh (HB4.o.trans (hb5.mono HB4.o.size));have C1:=zh (B1.o.below hb5 B1.o.lt);have C2:=zh (B2.o.below hb5 B2.o.lt);have C3:=zh (B3.o.below hb5 B3.o.lt);clear hb5 x0 x1 x2 x3 x4 x5 x6 y0 y1 y2 y3;cases hga:zfQ M f a with
 | false=>
  have HE:=zh (show R=0 by rw[HR.o];unfold zbs;rw[if_neg (by rw[HMM.o];decide),if_pos (.inl hga)]);clear hga;go_wp2_with fail;rw[HE.o];exact zgN rfl HB5.o rfl rfl
 | true=>
  have HGAT:=zh hga;clear hga;have HGB:=zh (zik (w:=W5) (zf6 HMM.o) hd (HF.o.below HB5.o) (HB.o.below HB5.o) HNB.o (Utf8Tabs_below HT.o HB5.o));obtain⟨x0,x1,x2,x3,x4,x5,x6⟩:=rr7 C1.o.row;obtain⟨y0,y1,y2,y3⟩:=rr4 C3.o.row;go_wp2_with fail;refine HGB.o.mono ?_;rintro e W6 ⟨rfl,hb6⟩;have HB6:=zh (HB5.o.trans (hb6.mono HB5.o.size));have D1:=zh (C1.o.below hb6 C1.o.lt);have D2:=zh (C2.o.below hb6 C2.o.lt);have D3:=zh (C3.o.below hb6 C3.o.lt);clear hb6 x0 x1 x2 x3 x4 x5 x6 y0 y1 y2 y3;cases hgb:zfQ M f b with
  | false=>
   have HE:=zh (show R=0 by rw[HR.o];unfold zbs;rw[if_neg (by rw[HMM.o];decide),if_pos (.inr hgb)]);clear hgb;go_wp2_with fail;rw[HE.o];exact zgN rfl HB6.o rfl rfl
  | true=>
   have HE:=zh (show R=zbw M f a b by rw[HR.o];unfold zbs;rw[if_neg (by rw[HMM.o];decide),if_neg (by rw[HGAT.o,hgb];decide)]);have HO:=zh (zrg M false f a b W6 _ _ _ (zf6 HMM.o) (HF.o.below HB6.o) (HA.o.below HB6.o) (HB.o.below HB6.o) ⟨(zhJ.1 HGAT.o).1,HNA.o⟩ ⟨(zhJ.1 hgb).1,HNB.o⟩);clear hgb;obtain⟨x0,x1,x2,x3,x4,x5,x6⟩:=rr7 D1.o.row;obtain⟨y0,y1,y2,y3⟩:=rr4 D2.o.row;obtain⟨z0,z1,z2,z3⟩:=rr4 D3.o.row;go_wp2_with fail;refine HO.o.mono ?_;rintro e W7 ⟨rfl,hb7⟩;have HB7:=zh (HB6.o.trans (hb7.mono HB6.o.size));clear hb7;go_wp2_with fail;rw[HE.o];exact zgN rfl HB7.o rfl rfl
def zeY (a n:Nat)(f:Fd)(fp:Option Addr)(fc:Nat)(most:Bool)(best:Vl)(p:Option Addr)(c:Nat):List Value:=[zbW a,zbW n,.string f.nm,.bool f.nl,.int .i64 f.k,.int .i64 f.wd,.int .i64 f.id,.int .i64 f.ix,.slice fp f.kids.length fc,.bool most,.bool best.nl,.int .i64 best.num,.string best.tx,.slice p best.kids.length c]
theorem AggAt.bound {O:Nat->Prop}{w:World}{b zb a n:Nat}{f:Fd}{most:Bool}{best:Vl}(h:AggAt O w b zb (.bound a n f most best))(hok:FdOk f):∃fp fc p c,BoxN w b 101 (zeY a n f fp fc most best p c)/\M.AtL (fun k=>¬O k) w (fdR f) (Fld.f7 f fp fc)/\FdAt w f (Fld.f7 f fp fc)/\VAt (fun k=>¬O k) w best (Fld.v4 best p c):=by
 obtain⟨-,-,t,cs,hb,rfl,fcs,vcs,rfl,h7,hf,hv⟩:=h;obtain⟨p,c,rfl,-⟩:=hv.shape;have hf2:=FdAt.ofM hok hf;obtain⟨fp,fc,rfl,-⟩:=hf2.shape;exact⟨fp,fc,p,c,hb,hf,hf2,hv⟩
theorem AggAt.bound' {O:Nat->Prop}{w w':World}{b zb a n a' n':Nat}{f:Fd}{fp:Option Addr}{fc:Nat}{most:Bool}{best best':Vl}{p:Option Addr}{c:Nat}(h:AggAt O w b zb (.bound a n f most best))(hs:w.heap.size<=w'.heap.size)(hb:BoxN w' b 101 (zeY a' n' f fp fc most best' p c))(hf:M.AtL (fun k=>¬O k) w' (fdR f) (Fld.f7 f fp fc))(hv:VAt (fun k=>¬O k) w' best' [.bool best'.nl,.int .i64 best'.num,.string best'.tx,.slice p best'.kids.length c]):AggAt O w' b zb (.bound a' n' f most best'):=
 ⟨h.own,fun k hk=>Nat.lt_of_lt_of_le (h.lt k hk) hs,101,_,hb,rfl,(Fld.f7 f fp fc),_,rfl,rfl,hf,hv⟩
theorem zlI {M:Nat}{O:Nat->Prop}{w:World}{b zb a n:Nat}{f:Fd}{most:Bool}{best:Vl}(h:AggAt O w b zb (.bound a n f most best))(hok:FdOk f)(hd:zau f<=M)(hS:SaysAt w)(hT:Lib.Utf8Tabs 1 2 w){v:Vl}{cs:List Value}(hv:VAt (fun _=>True) w v cs)(hfw:VFew v)(hnv:NumI v)(hnb:NumI best)(first:Bool) :
  Calls Tryz.prog 184 #[.pointer (some ⟨b,0,none⟩),.agg cs.toArray,.bool first] w (zb6 O w b zb (.bound a n f most (zcD (zbs M f v best) most best v first))):=by
 obtain⟨fp,fc,p,c,hb,hfm,hf,ho⟩:=h.bound hok;obtain⟨vp,vc,rfl,-⟩:=hv.shape;have HH:=zh h;obtain⟨W1,hW,a0,hBW⟩:=zao w 39 (Fld.v4 v vp vc);have HW:=zh hW;have HB1:=zh hBW;have HA:=zh a0;have HX1:=zh (hb.below hBW hb.lt);have HF:=zh hfm;have HO:=zh ho;have HV:=zh hv;have HFW:=zh hfw;have HCM:Hid (∀t,Calls Tryz.prog 185 #[.agg #[.string f.nm,.bool f.nl,.int .i64 f.k,.int .i64 f.wd,.int .i64 f.id,.int .i64 f.ix,.slice fp f.kids.length fc],.agg #[.bool v.nl,.int .i64 v.num,.string v.tx,.slice vp v.kids.length vc],.agg #[.bool best.nl,.int .i64 best.num,.string best.tx,.slice p best.kids.length c]] (W1.drewN t) (zjG (W1.drewN t) (zbs M f v best))):=zh (fun t=>
  znM hd (hf.below (zab hBW t)) (hv.below (zab hBW t)) ((ho.mono (fun _ _=>trivial)).below (zab hBW t)) hnv hnb (hS.below (zab hBW t)) (Utf8Tabs_below hT (zab hBW t)))
 have hlt:=hb.lt;have hbne:b≠w.heap.size:=by omega
 clear h hb hfm hf ho hv hfw hnv hnb hS hT hW a0 hBW;generalize zbs M f v best=k at *;obtain⟨RS,hRS⟩:=Fld.nm (Agg.bound a n f most (zcD k most best v first));rw[<-hRS];have HRS:=zh hRS;clear hRS
 go_in
 go_wp2_with fail;rw[<-HW.o];have p2:=HX1.o.row 2 _ rfl;have p3:=HX1.o.row 3 _ rfl;have p4:=HX1.o.row 4 _ rfl;have p5:=HX1.o.row 5 _ rfl;have p6:=HX1.o.row 6 _ rfl;have p7:=HX1.o.row 7 _ rfl;have p8:=HX1.o.row 8 _ rfl;have p9:=HX1.o.row 9 _ rfl;have p10:=HX1.o.row 10 _ rfl;have p11:=HX1.o.row 11 _ rfl;have p12:=HX1.o.row 12 _ rfl;have p13:=HX1.o.row 13 _ rfl;obtain⟨x0,x1,x2,x3⟩:=rr4 HA.o.row;refine Mix.region 15 (by kernel_rfl) rfl ?_;refine Mix.phase2 (ft:=6) (ph:=[0,1,2,3,4,5,6,7,8]) (by repeat constructor) (by kernel_rfl) ?_
 repeat (go_big_quiet_step (fail))
 refine wpQuiet_nil ?_;rintro _ ⟨nt,rfl⟩;refine Mix.alone (i:=9) (by kernel_rfl) rfl (by rfl) (fun K hK=>?_)
 go_step
 refine(HCM.o (1+nt)).mono ?_;rintro e W4 ⟨er,rfl,hb4⟩;have hb14:Below W1.heap.size W1 W4:=(zab (Below.refl _ W1) (1+nt)).trans hb4;have HB14:=zh hb14;clear hb4 hb14 p2 p3 p4 p5 p6 p7 p8 p9 p10 p11 p12 p13 x0 x1 x2 x3;refine hK _ _ ?_;clear hK K;refine Mix.phase2 (ft:=0) (ph:=[10,11,12,13,14]) (by repeat constructor) (by kernel_rfl) ?_
 repeat (go_big_quiet_step (fail))
 refine wpQuiet_nil ?_;rintro _ ⟨nu,rfl⟩;refine Mix.done (by kernel_rfl) ?_;obtain⟨W5,hW5⟩:∃W,W=W4.drewN nu:=⟨_,rfl⟩;rw[<-hW5];have HB15:=zh (show Below W1.heap.size W1 W5 by rw[hW5];exact zab HB14.o nu);have HB5:=zh (HB1.o.trans (HB15.o.mono HB1.o.size));have HX5:=zh (HX1.o.below HB15.o HX1.o.lt);have HA5:=zh (HA.o.below HB15.o HA.o.lt);have HOW:=zh (ze5 HFW.o (HV.o.below HB5.o));have HF5:=zh (HF.o.keep (T:=fun k=>¬O k) (fun k hk hl=>⟨HB5.o.block k hl,hk⟩));have HO5:=zh (HO.o.keep (T:=fun k=>¬O k) (fun k hk hl=>⟨HB5.o.block k hl,hk⟩));clear hW5;have p9:=HX5.o.row 9 _ rfl;obtain⟨x0,x1,x2,x3⟩:=rr4 HA5.o.row;cases first with
 | true=>
  have HCOND:=zh (show true=true\/(most=true/\0<k)\/(most=false/\k<0) from .inl rfl);have HE:=zh (show RS=.bound a n f most v by rw[HRS.o];unfold zcD;rw[if_pos HCOND.o]);go_wp2_with fail;refine HOW.o.mono ?_;rintro e W6 ⟨q2,c2,rfl,hv6,hb6⟩;have HB6:=zh (HB5.o.trans (hb6.mono HB5.o.size));have HV6:=zh (show VAt (fun k=>¬O k) W6 v (Fld.v4 v q2 c2) from hv6.mono (fun k hk ho=>by have h1:=HH.o.lt k ho;have h2:=HB5.o.size;omega));have HX6:=zh (HX5.o.below hb6 HX5.o.lt);have HF6:=zh (HF5.o.keep (T:=fun k=>¬O k) (fun k hk hl=>⟨hb6.block k hl,hk⟩));clear hv6 hb6 x0 x1 x2 x3 p9;have z10:=HX6.o.frozen 10;have y10:=HX6.o.row 10 _ rfl;have z11:=HX6.o.frozen 11;have y11:=HX6.o.row 11 _ rfl;have z12:=HX6.o.frozen 12;have y12:=HX6.o.row 12 _ rfl;have z13:=HX6.o.frozen 13;have y13:=HX6.o.row 13 _ rfl;have hlt6:=HX6.o.lt;have HFN:Hid (∀W,W=(((W6.setCell ⟨b,10,none⟩ (.bool v.nl)).setCell ⟨b,11,none⟩ (.int .i64 v.num)).setCell ⟨b,12,none⟩ (.string v.tx)).setCell ⟨b,13,none⟩ (.slice q2 v.kids.length c2)->zb6 O w b zb (.bound a n f most v) (.returned (.tuple #[])) W):=zh (by
   intro W hW;have hg:W6.grownBy W (some b):=by rw[hW];exact zad (zad (zad (zai _ _ _ _) (zai _ _ _ _)) (zai _ _ _ _)) (zai _ _ _ _)
   have hbx:BoxN W b 101 (zeY a n f fp fc most v q2 c2):=by rw[hW];exact(((HX6.o.set 10 _).set 11 _).set 12 _).set 13 _
   have hC:Chg (zas b zb) w W:=(Chg.below HB6.o).trans (Chg.grown hg (.inl rfl));have hk:∀k,¬O k->k<W6.heap.size->W.heap[k]?=W6.heap[k]?/\¬O k:=fun k hk hl=>⟨hg.block k hl (fun e=>by cases e;exact hk HH.o.own.1),hk⟩;exact⟨rfl,hC,HH.o.bound' hC.size hbx (HF6.o.keep hk) (HV6.o.keep hk)⟩)
  go_wp2_with fail;go_end0;rw[HE.o];exact HFN.o _ rfl
 | false=>
  cases most with
  | true=>
   by_cases hk:0<k
   ·have k1:decide (0<k)=true:=decide_eq_true hk;have HCOND:=zh (show false=true\/(true=true/\0<k)\/(true=false/\k<0) from .inr (.inl ⟨rfl,hk⟩));have HE:=zh (show RS=.bound a n f true v by rw[HRS.o];unfold zcD;rw[if_pos HCOND.o]);go_wp2_with fail;refine HOW.o.mono ?_;rintro e W6 ⟨q2,c2,rfl,hv6,hb6⟩;have HB6:=zh (HB5.o.trans (hb6.mono HB5.o.size));have HV6:=zh (show VAt (fun k=>¬O k) W6 v (Fld.v4 v q2 c2) from hv6.mono (fun k hk ho=>by have h1:=HH.o.lt k ho;have h2:=HB5.o.size;omega));have HX6:=zh (HX5.o.below hb6 HX5.o.lt);have HF6:=zh (HF5.o.keep (T:=fun k=>¬O k) (fun k hk hl=>⟨hb6.block k hl,hk⟩));clear hv6 hb6 x0 x1 x2 x3 p9;have z10:=HX6.o.frozen 10;have y10:=HX6.o.row 10 _ rfl;have z11:=HX6.o.frozen 11;have y11:=HX6.o.row 11 _ rfl;have z12:=HX6.o.frozen 12;have y12:=HX6.o.row 12 _ rfl;have z13:=HX6.o.frozen 13;have y13:=HX6.o.row 13 _ rfl;have hlt6:=HX6.o.lt;have HFN:Hid (∀W,W=(((W6.setCell ⟨b,10,none⟩ (.bool v.nl)).setCell ⟨b,11,none⟩ (.int .i64 v.num)).setCell ⟨b,12,none⟩ (.string v.tx)).setCell ⟨b,13,none⟩ (.slice q2 v.kids.length c2)->zb6 O w b zb (.bound a n f true v) (.returned (.tuple #[])) W):=zh (by
     intro W hW;have hg:W6.grownBy W (some b):=by rw[hW];exact zad (zad (zad (zai _ _ _ _) (zai _ _ _ _)) (zai _ _ _ _)) (zai _ _ _ _)
     have hbx:BoxN W b 101 (zeY a n f fp fc true v q2 c2):=by rw[hW];exact(((HX6.o.set 10 _).set 11 _).set 12 _).set 13 _
     have hC:Chg (zas b zb) w W:=(Chg.below HB6.o).trans (Chg.grown hg (.inl rfl));have hk:∀k,¬O k->k<W6.heap.size->W.heap[k]?=W6.heap[k]?/\¬O k:=fun k hk hl=>⟨hg.block k hl (fun e=>by cases e;exact hk HH.o.own.1),hk⟩;exact⟨rfl,hC,HH.o.bound' hC.size hbx (HF6.o.keep hk) (HV6.o.keep hk)⟩)
    go_wp2_with fail;go_end0;rw[HE.o];exact HFN.o _ rfl
   ·have k1:decide (0<k)=false:=decide_eq_false hk;have HCOND:=zh (show ¬(false=true\/(true=true/\0<k)\/(true=false/\k<0)) from fun h=>by rcases h with h|h|h;cases h;exact hk h.2;cases h.1);have HE:=zh (show RS=.bound a n f true best by rw[HRS.o];unfold zcD;rw[if_neg HCOND.o]);go_wp2_with fail;go_end0;rw[HE.o];exact⟨rfl,Chg.below HB5.o,HH.o.bound' HB5.o.size HX5.o HF5.o HO5.o⟩
  | false=>
   by_cases hk:k<0
   ·have k1:decide (k<0)=true:=decide_eq_true hk;have HCOND:=zh (show false=true\/(false=true/\0<k)\/(false=false/\k<0) from .inr (.inr ⟨rfl,hk⟩));have HE:=zh (show RS=.bound a n f false v by rw[HRS.o];unfold zcD;rw[if_pos HCOND.o]);go_wp2_with fail;refine HOW.o.mono ?_;rintro e W6 ⟨q2,c2,rfl,hv6,hb6⟩;have HB6:=zh (HB5.o.trans (hb6.mono HB5.o.size));have HV6:=zh (show VAt (fun k=>¬O k) W6 v (Fld.v4 v q2 c2) from hv6.mono (fun k hk ho=>by have h1:=HH.o.lt k ho;have h2:=HB5.o.size;omega));have HX6:=zh (HX5.o.below hb6 HX5.o.lt);have HF6:=zh (HF5.o.keep (T:=fun k=>¬O k) (fun k hk hl=>⟨hb6.block k hl,hk⟩));clear hv6 hb6 x0 x1 x2 x3 p9;have z10:=HX6.o.frozen 10;have y10:=HX6.o.row 10 _ rfl;have z11:=HX6.o.frozen 11;have y11:=HX6.o.row 11 _ rfl;have z12:=HX6.o.frozen 12;have y12:=HX6.o.row 12 _ rfl;have z13:=HX6.o.frozen 13;have y13:=HX6.o.row 13 _ rfl;have hlt6:=HX6.o.lt;have HFN:Hid (∀W,W=(((W6.setCell ⟨b,10,none⟩ (.bool v.nl)).setCell ⟨b,11,none⟩ (.int .i64 v.num)).setCell ⟨b,12,none⟩ (.string v.tx)).setCell ⟨b,13,none⟩ (.slice q2 v.kids.length c2)->zb6 O w b zb (.bound a n f false v) (.returned (.tuple #[])) W):=zh (by
     intro W hW;have hg:W6.grownBy W (some b):=by rw[hW];exact zad (zad (zad (zai _ _ _ _) (zai _ _ _ _)) (zai _ _ _ _)) (zai _ _ _ _)
     have hbx:BoxN W b 101 (zeY a n f fp fc false v q2 c2):=by rw[hW];exact(((HX6.o.set 10 _).set 11 _).set 12 _).set 13 _
     have hC:Chg (zas b zb) w W:=(Chg.below HB6.o).trans (Chg.grown hg (.inl rfl));have hk:∀k,¬O k->k<W6.heap.size->W.heap[k]?=W6.heap[k]?/\¬O k:=fun k hk hl=>⟨hg.block k hl (fun e=>by cases e;exact hk HH.o.own.1),hk⟩;exact⟨rfl,hC,HH.o.bound' hC.size hbx (HF6.o.keep hk) (HV6.o.keep hk)⟩)
    go_wp2_with fail;go_end0;rw[HE.o];exact HFN.o _ rfl
   ·have k1:decide (k<0)=false:=decide_eq_false hk;have HCOND:=zh (show ¬(false=true\/(false=true/\0<k)\/(false=false/\k<0)) from fun h=>by rcases h with h|h|h;cases h;cases h.1;exact hk h.2);have HE:=zh (show RS=.bound a n f false best by rw[HRS.o];unfold zcD;rw[if_neg HCOND.o]);go_wp2_with fail;go_end0;rw[HE.o];exact⟨rfl,Chg.below HB5.o,HH.o.bound' HB5.o.size HX5.o HF5.o HO5.o⟩
theorem zmG {O:Nat->Prop}{w:World}{b zb a n:Nat}{f:Fd}{most:Bool}{best:Vl}(h:AggAt O w b zb (.bound a n f most best))(hok:FdOk f)(hf:VFew best):Calls Tryz.prog 182 #[.pointer (some ⟨b,0,none⟩)] w (zd9 w (zb9 (.bound a n f most best)).1 (zb9 (.bound a n f most best)).2):=by
 obtain⟨fp,fc,p,c,hb,-,-,ho⟩:=h.bound hok;have hlt:=hb.lt;obtain⟨W1,hW,a0,hBW⟩:=zao w 39 [.bool false,.int .i64 0,.string ⟨#[]⟩,.slice none 0 0];have HW:=zh hW;have HB:=zh hBW;have HA:=zh a0;have HX1:=zh (hb.below hBW hb.lt);have HOT:=zh (ho.mono (T:=fun _=>True) (fun _ _=>trivial));have HSZ:Hid (W1.heap.size=w.heap.size+1):=zh (by rw[hW];simp only[World.size_alloc]);have HFW:=zh hf;obtain⟨R,hR⟩:=Fld.nm (zb9 (.bound a n f most best));rw[<-hR];have HR:=zh hR;clear h hb ho hW a0 hBW hf hR
 go_in
 go_wp2_with fail;rw[<-HW.o];have p0:W1.cell? ⟨b,0,none⟩=some (zbW a):=HX1.o.row 0 _ rfl;have p1:W1.cell? ⟨b,1,none⟩=some (zbW n):=HX1.o.row 1 _ rfl
 go_quiet (fail)
 obtain⟨V,hV⟩:=Fld.nm (W1.drewN nq);rw[<-hV];have HBV:=zh (show Below w.heap.size w V by rw[hV];exact zab HB.o nq);have HB1V:=zh (show Below W1.heap.size W1 V by rw[hV];exact zab (Below.refl _ _) nq);have HXV:=zh (HX1.o.below HB1V.o HX1.o.lt);have HAV:=zh (HA.o.below HB1V.o HA.o.lt);have HOW:=zh (ze5 HFW.o (HOT.o.below HBV.o));clear hV p0 p1;have y10:V.cell? ⟨b,10,none⟩=some (.bool best.nl):=HXV.o.row 10 _ rfl;have y11:V.cell? ⟨b,11,none⟩=some (.int .i64 best.num):=HXV.o.row 11 _ rfl;have y12:V.cell? ⟨b,12,none⟩=some (.string best.tx):=HXV.o.row 12 _ rfl;have y13:V.cell? ⟨b,13,none⟩=some (.slice p best.kids.length c):=HXV.o.row 13 _ rfl;obtain⟨x0,x1,x2,x3⟩:=rr4 HAV.o.row;obtain⟨z0,z1,z2,z3⟩:=ff4 HAV.o;have hltV:=HAV.o.lt;by_cases ha0:a=n
 ·have HE:=zh (show R=(zkG,0) by rw[HR.o];simp only[zb9];rw[if_pos ha0]);have k1:((a:Int) == (n:Int))=true:=by simp[ha0]
  have k2:(a == n)=true:=by simpa using ha0
  clear ha0;go_wp2_with fail;rw[HE.o];exact zcw rfl (zaS rfl HAV.o _ _ _ _) (VAt.flat _ _ _) (zbP HBV.o (Nat.le_refl _) _ _ _ _) rfl rfl
 ·have HE:=zh (show R=(best,0) by rw[HR.o];simp only[zb9];rw[if_neg ha0]);have k1:((a:Int) == (n:Int))=false:=by simp;omega
  have k2:(a == n)=false:=by simpa using ha0
  clear ha0;go_wp2_with fail;refine HOW.o.mono ?_;rintro e W2 ⟨q2,c2,rfl,hv2,hb2⟩;have HB2:=zh (HBV.o.trans (hb2.mono HBV.o.size));have HV2:=zh hv2;have HA2:=zh (HAV.o.below hb2 HAV.o.lt);have HSV:=zh HB1V.o.size;clear hv2 hb2 y10 y11 y12 y13 x0 x1 x2 x3 z0 z1 z2 z3 hltV;obtain⟨z0,z1,z2,z3⟩:=ff4 HA2.o;obtain⟨x0,x1,x2,x3⟩:=rr4 HA2.o.row;have hlt2:=HA2.o.lt;go_wp2_with fail;rw[HE.o];exact zcw rfl (zaS rfl HA2.o _ _ _ _) (HV2.o.keep (fun k hk hl=>⟨zaQ (by have:=HSZ.o;have:=HSV.o;omega) _ _ _ _,by have:=HSZ.o;have:=HSV.o;omega⟩)) (zbP HB2.o (Nat.le_refl _) _ _ _ _) rfl rfl
theorem znN {M:Nat}{O:Nat->Prop}{w:World}{b zb a n:Nat}{f:Fd}{most:Bool}{best:Vl}(h:AggAt O w b zb (.bound a n f most best))(hok:FdOk f)(hd:zau f<=M)(ha:a<=2147483647)(hn:n<=2147483647)(hS:∀W,Chg (zas b zb) w W->SaysAt W/\Lib.Utf8Tabs 1 2 W){v:Vl}{cs:List Value}(hv:∀W,Chg (zas b zb) w W->VAt (fun _=>True) W v cs)(hfw:VFew v)(hnv:NumI v)(hnb:NumI best) :
  Calls Tryz.prog 181 #[.pointer (some ⟨b,0,none⟩),.agg cs.toArray] w (zb6 O w b zb (zaJ (zbs M) (.bound a n f most best) v)):=by
 obtain⟨fp,fc,p,c,hb,hfm,hfa,ho⟩:=h.bound hok;obtain⟨vp,vc,rfl,-⟩:=(hv w (Chg.refl _ _)).shape;have HH:=zh h;have HBX:=zh hb;have HFM:=zh hfm;have HO:=zh ho;have HSV:=zh hS;have HVV:=zh hv;have HFW:=zh hfw;have HNV:=zh hnv;have HNB:=zh hnb;obtain⟨R,hR⟩:=Fld.nm (zaJ (zbs M) (.bound a n f most best) v);rw[<-hR];have HR:=zh hR;obtain⟨vn,hvn⟩:∃x,v.nl=x:=⟨_,rfl⟩;have HVN:=zh hvn;show Calls Tryz.prog 181 #[.pointer (some ⟨b,0,none⟩),.agg #[.bool v.nl,.int .i64 v.num,.string v.tx,.slice vp v.kids.length vc]] w (zb6 O w b zb R);rw[hvn];clear h hb hfm hfa ho hS hv hfw hnv hnb hR hvn;obtain⟨W1,hW,a0,hBW⟩:=zao w 39 [.bool vn,.int .i64 v.num,.string v.tx,.slice vp v.kids.length vc];have HW:=zh hW;have HB:=zh hBW;have HA:=zh a0;clear hW hBW a0
 go_in
 go_wp2_with fail;rw[show w.alloc (Obj.cells #[.bool vn,.int .i64 v.num,.string v.tx,.slice vp v.kids.length vc] 39)=W1 from HW.o.symm];obtain⟨u,hu⟩:=Fld.nm (w.heap.size);rw[<-hu] at HA ⊢;have HU:=zh hu;clear hu HW;obtain⟨V,hV⟩:=Fld.nm (W1.drew);have HV:=zh (show Below w.heap.size w V by rw[hV];exact zaf HB.o);have HAV:=zh (show BoxN V u 39 [.bool vn,.int .i64 v.num,.string v.tx,.slice vp v.kids.length vc] by rw[hV];exact HA.o);have HS:=zh (show RowAt V u [.bool vn,.int .i64 v.num,.string v.tx,.slice vp v.kids.length vc] from HAV.o.row);refine Late.region (fun w'=>RowAt w' u [.bool vn,.int .i64 v.num,.string v.tx,.slice vp v.kids.length vc]) (fun j=>decide (4<=j)) rfl ?_;rw[<-hV];clear hV;refine Late.tb (i:=0) (v:=?_) ?_ HS.o ?_;rotate_left
 ·intro w' hS;clear hS;go_simp;rfl
 refine Late.tb (i:=1) (v:=?_) ?_ HS.o ?_;rotate_left
 ·intro w' hS;clear hS;go_simp;rfl
 refine Late.tb (i:=2) (v:=?_) ?_ HS.o ?_;rotate_left
 ·intro w' hS;clear hS;go_simp;rfl
 refine Late.tb (i:=3) (v:=?_) ?_ HS.o ?_;rotate_left
 ·intro w' hS;have p0:=hS 0 _ rfl;have p1:=hS 1 _ rfl;have p2:=hS 2 _ rfl;have p3:=hS 3 _ rfl;clear hS;go_simp;rfl
 refine Late.on (i:=4) fun K hK=>?_;go_simp;refine(zbU (HBX.o.below HV.o HBX.o.lt) ha hn vn (.int .i64 v.num) (.string v.tx) (.slice vp v.kids.length vc)).mono ?_;rintro e w2 ⟨rfl,h1,h2⟩;have HG:=zh h1;have HB2:=zh h2;have HC:Hid (Chg (zas b zb) w w2):=zh ((Chg.below HV.o).trans (Chg.grown HG.o (.inl rfl)));have HA2:=zh (show BoxN w2 u 39 [.bool vn,.int .i64 v.num,.string v.tx,.slice vp v.kids.length vc] from HAV.o.kept HG.o (by have h1:=HU.o;have h2:=HBX.o.lt;intro e;cases e;omega));clear h1 h2;refine hK _ _ (fun h=>by cases h) ?_;clear hK K;refine Late.on (i:=5) fun K hK=>?_;go_simp;refine hK _ _ (fun h=>by cases h) ?_;clear hK K;refine Late.done (by kernel_rfl) ?_ _;have HKP:Hid (∀k,¬O k->k<w.heap.size->w2.heap[k]?=w.heap[k]?/\¬O k):=zh (fun k hk hl=>⟨HC.o.block k hl (fun h=>hk (by rcases h with e|e;exact e ▸ HH.o.own.1;exact e ▸ HH.o.own.2)),hk⟩);have HFM2:=zh (HFM.o.keep (T:=fun k=>¬O k) HKP.o);have HO2:=zh (HO.o.keep (T:=fun k=>¬O k) HKP.o);have HA2G:=zh (show AggAt O w2 b zb (.bound (a+1) (zaO n vn) f most best) from HH.o.bound' HC.o.size HB2.o HFM2.o HO2.o);cases vn with
 | true=>
  have HE:=zh (show R=.bound (a+1) (zaO n true) f most best by rw[HR.o];simp only[zaJ,HVN.o,if_true]);go_wp2_with fail;go_end0;rw[HE.o];exact⟨rfl,HC.o,HA2G.o⟩
 | false=>
  have HE:=zh (show R=.bound (a+1) (zaO n false) f most (zcD (zbs M f v best) most best v (decide (a=n))) by rw[HR.o];simp only[zaJ,HVN.o,Bool.false_eq_true,if_false]);go_wp2_with fail;have BXF:=zh (show BoxN w2 b 101 (zeY (a+1) n f fp fc most best p c) from HB2.o);have p0:w2.cell? ⟨b,0,none⟩=some (.int .i64 ((a:Int)+1)):=BXF.o.row 0 _ rfl;have p1:w2.cell? ⟨b,1,none⟩=some (.int .i64 (n:Int)):=BXF.o.row 1 _ rfl;obtain⟨x0,x1,x2,x3⟩:=rr4 HA2.o.row;refine Mix.region 15 (by kernel_rfl) rfl ?_;refine Mix.phase2 (ft:=1) (ph:=[0,1,2,3,4,5,6,7,8,9,10,11,12,13]) (by repeat constructor) (by kernel_rfl) ?_
  repeat (go_big_quiet_step (fail))
  refine wpQuiet_nil ?_;rintro _ ⟨nt,rfl⟩;refine Mix.alone (i:=14) (by kernel_rfl) rfl (by rfl) (fun K hK=>?_)
  go_step
  have HCT:=zh (show Chg (zas b zb) w (w2.drewN (1+nt)) from HC.o.trans (Chg.below (zab (Below.refl _ _) _)));have HBT:=zh (show Below w2.heap.size w2 (w2.drewN (1+nt)) from zab (Below.refl _ w2) (1+nt));have HCL:=zh (zlI (M:=M) (HA2G.o.below HBT.o) hok hd (HSV.o _ HCT.o).1 (HSV.o _ HCT.o).2 (HVV.o _ HCT.o) HFW.o HNV.o HNB.o (decide (a=n)));rw[HVN.o] at HCL;rw[show((a:Int)+1-(n:Int) == 1)=decide (a=n) by rw[Bool.eq_iff_iff];simp;omega];refine HCL.o.mono ?_;rintro e w5 ⟨rfl,h1,h2⟩;have HC5:=zh (HCT.o.trans h1);have HA5:=zh h2;clear h1 h2 p0 p1 x0 x1 x2 x3;refine hK _ _ ?_;clear hK K;refine Mix.done (by kernel_rfl) ?_;go_wp2_with fail;go_end0;rw[HE.o];exact⟨rfl,HC5.o,HA5.o⟩
end Go.Fld
