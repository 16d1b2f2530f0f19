import Derived.Test.YthocbeghnkacnaaGreatDoorT32
import Derived.Test.YthocbeghnkacnaaGreatDoorT34
set_option linter.unusedVariables false
set_option linter.unusedSimpArgs false
set_option linter.unnecessarySimpa false
set_option maxRecDepth 100000
set_option maxHeartbeats 16000000
namespace Go.Fld
open Go Go.RowKit Go.Proofs Go.ChangeShapes Go.WideShapes Go.ChangeAt Go.Shelf Go.Fld.Late
def zbe:Agg->TypeId
 | .number _ _ _=>84 | .floats _ _ _ _ _ _ _=>89 | .wholes _ _ _ _=>96 | .bound _ _ _ _ _=>99 | .aend _ _ _ _=>102 | .logic _ _ _ _=>105
def zdL:Agg->FuncId
 | .number _ _ _=>136 | .floats _ _ _ _ _ _ _=>142 | .wholes _ _ _ _=>172 | .bound _ _ _ _ _=>181 | .aend _ _ _ _=>209 | .logic _ _ _ _=>213
def zhZ:Agg->FuncId
 | .number _ _ _=>134 | .floats _ _ _ _ _ _ _=>141 | .wholes _ _ _ _=>171 | .bound _ _ _ _ _=>180 | .aend _ _ _ _=>208 | .logic _ _ _ _=>212
def zeZ:Agg->FuncId
 | .number _ _ _=>137 | .floats _ _ _ _ _ _ _=>143 | .wholes _ _ _ _=>173 | .bound _ _ _ _ _=>182 | .aend _ _ _ _=>210 | .logic _ _ _ _=>214
def zgO:Agg->FuncId
 | .number _ _ _=>133 | .floats _ _ _ _ _ _ _=>140 | .wholes _ _ _ _=>170 | .bound _ _ _ _ _=>179 | .aend _ _ _ _=>207 | .logic _ _ _ _=>211
theorem zfq (s:Agg)(b:Nat)(w:World):(method 390 (zbe s) (.pointer (some ⟨b,0,none⟩)) "colonnade/fold.take").run Tryz.prog w=.ok (zdL s,.pointer (some ⟨b,0,none⟩)) w
 /\(method 390 (zbe s) (.pointer (some ⟨b,0,none⟩)) "colonnade/fold.merge").run Tryz.prog w=.ok (zhZ s,.pointer (some ⟨b,0,none⟩)) w
 /\(method 390 (zbe s) (.pointer (some ⟨b,0,none⟩)) "colonnade/fold.value").run Tryz.prog w=.ok (zeZ s,.pointer (some ⟨b,0,none⟩)) w
 /\(method 390 (zbe s) (.pointer (some ⟨b,0,none⟩)) "colonnade/fold.copied").run Tryz.prog w=.ok (zgO s,.pointer (some ⟨b,0,none⟩)) w
 /\(method 390 (zbe s) (.pointer (some ⟨b,0,none⟩)) "colonnade/fold.rows").run Tryz.prog w=.ok (135,.pointer (some ⟨b,0,none⟩)) w:=by
 cases s <;> simp only[zbe,zdL,zhZ,zeZ,zgO] <;> exact⟨rfl,rfl,rfl,rfl,rfl⟩
theorem zgP (s:Agg):(∀(args:Array Value) (w:World),(callFunc (zdL s) args).run Tryz.prog w=.ok (.enter (zdL s) args) w)
 /\(∀(args:Array Value) (w:World),(callFunc (zhZ s) args).run Tryz.prog w=.ok (.enter (zhZ s) args) w)
 /\(∀(args:Array Value) (w:World),(callFunc (zeZ s) args).run Tryz.prog w=.ok (.enter (zeZ s) args) w)
 /\(∀(args:Array Value) (w:World),(callFunc (zgO s) args).run Tryz.prog w=.ok (.enter (zgO s) args) w):=by
 cases s
 ·exact⟨enters_of Tryz.func136 (by kernel_rfl) rfl,enters_of Tryz.func134 (by kernel_rfl) rfl,enters_of Tryz.func137 (by kernel_rfl) rfl,enters_of Tryz.func133 (by kernel_rfl) rfl⟩
 ·exact⟨enters_of Tryz.func142 (by kernel_rfl) rfl,enters_of Tryz.func141 (by kernel_rfl) rfl,enters_of Tryz.func143 (by kernel_rfl) rfl,enters_of Tryz.func140 (by kernel_rfl) rfl⟩
 ·exact⟨enters_of Tryz.func172 (by kernel_rfl) rfl,enters_of Tryz.func171 (by kernel_rfl) rfl,enters_of Tryz.func173 (by kernel_rfl) rfl,enters_of Tryz.func170 (by kernel_rfl) rfl⟩
 ·exact⟨enters_of Tryz.func181 (by kernel_rfl) rfl,enters_of Tryz.func180 (by kernel_rfl) rfl,enters_of Tryz.func182 (by kernel_rfl) rfl,enters_of Tryz.func179 (by kernel_rfl) rfl⟩
 ·exact⟨enters_of Tryz.func209 (by kernel_rfl) rfl,enters_of Tryz.func208 (by kernel_rfl) rfl,enters_of Tryz.func210 (by kernel_rfl) rfl,enters_of Tryz.func207 (by kernel_rfl) rfl⟩
 ·exact⟨enters_of Tryz.func213 (by kernel_rfl) rfl,enters_of Tryz.func212 (by kernel_rfl) rfl,enters_of Tryz.func214 (by kernel_rfl) rfl,enters_of Tryz.func211 (by kernel_rfl) rfl⟩
def zdv (L:Nat):Nat:=2 ^ L
def zru (M:Nat):Agg->Prop
 | .floats a _ z _ _ _ _=>z.natAbs<=a*zdv 2099
 | .wholes a _ _ z=>z.natAbs<=a*zdv 64
 | .bound _ _ f _ best=>FdOk f/\zau f<=M/\VFew best/\NumI best
 | .aend _ _ _ one=>VFew one
 | _=>True
structure AggOk (M:Nat)(s:Agg):Prop where
 nulls:s.nulls<=s.all
 all:s.all<=2147483647
 rest:zru M s
theorem zfR {z:Int}{a L:Nat}(hL:L<=3000)(ha:a<=2147483647)(h:z.natAbs<=a*zdv L):zaR z:=by
 refine⟨(L+31) / 32+1,by omega,?_⟩;have h1:a<2 ^ 31:=by
  have:(2:Nat) ^ 31=2147483648:=by decide
  omega
 have h2:a*zdv L<2 ^ 31*zdv L:=Nat.mul_lt_mul_of_pos_right h1 (Nat.pow_pos (by decide));have h3:2 ^ 31*zdv L=2 ^ (31+L):=by unfold zdv;rw[Nat.pow_add]
 have h4:2 ^ (31+L)<=2 ^ (32*((L+31) / 32+1)):=Nat.pow_le_pow_right (by decide) (by omega);omega
theorem zm0 {x y:Int}{a c L:Nat}(h1:x.natAbs<=a*zdv L)(h2:y.natAbs<=c*zdv L):(x+y).natAbs<=(a+c)*zdv L:=by
 have:=Int.natAbs_add_le x y;rw[Nat.add_mul];omega
theorem zfE {x:Int}{a c L:Nat}(h1:x.natAbs<=a*zdv L)(hc:a<=c):x.natAbs<=c*zdv L:=Nat.le_trans h1 (Nat.mul_le_mul_right _ hc)
theorem zqX (num:Int):(za5 num).natAbs<=1*zdv 2099:=by
 obtain⟨L,hL⟩:=Fld.nm (2046);have h:=zmY num hL;rw[show(2099:Nat)=53+L by omega];unfold zdv za5;split <;> omega
theorem zqY {k num:Int}(h:zah num):(zlC k num).natAbs<=1*zdv 64:=by
 unfold zah at h;have:zdv 64=18446744073709551616:=by decide
 unfold zlC;rw[this];split <;> omega
theorem ze0 {n a:Nat}(h:n<=a)(nl:Bool):zaO n nl<=a+1:=by unfold zaO;split <;> omega
theorem ziH (C:Fd->Vl->Vl->Int)(s:Agg)(v:Vl):(zaJ C s v).all=s.all+1:=by
 cases s <;> simp only[zaJ] <;> (try rfl);split <;> rfl
theorem ziI (C:Fd->Vl->Vl->Int)(s:Agg)(v:Vl):zbe (zaJ C s v)=zbe s:=by
 cases s <;> simp only[zaJ] <;> (try rfl);split <;> rfl
theorem zh0 {M:Nat}{C:Fd->Vl->Vl->Int}{s:Agg}(h:AggOk M s)(hlt:s.all<2147483647){v:Vl}(hf:VFew v)(hn:NumI v):AggOk M (zaJ C s v):=by
 obtain⟨h1,h2,h3⟩:=h;cases s with
 | number a n r=>exact⟨ze0 h1 _,hlt,trivial⟩
 | logic a n l tr=>exact⟨ze0 h1 _,hlt,trivial⟩
 | aend a n last one=>
  refine⟨ze0 h1 _,hlt,?_⟩;show VFew (if a=0\/last=true then v else one);split
  ·exact hf
  ·exact h3
 | bound a n f most best=>
  refine⟨ze0 h1 _,hlt,h3.1,h3.2.1,?_,?_⟩
  ·show VFew (if v.nl=true then best else zcD (C f v best) most best v (decide (a=n)));split
   ·exact h3.2.2.1
   ·exact zkf _ _ _ (fun _=>h3.2.2.1) hf
  ·show NumI (if v.nl=true then best else zcD (C f v best) most best v (decide (a=n)));split
   ·exact h3.2.2.2
   ·exact zkf _ _ _ (fun _=>h3.2.2.2) hn
 | wholes a n k z=>
  refine⟨ze0 h1 _,hlt,?_⟩;show(zhE z k v.nl v.num).natAbs<=(a+1)*zdv 64;unfold zhE;split
  ·exact zfE h3 (by omega)
  ·exact zm0 h3 (zqY hn.num)
 | floats a n z ab be no so=>
  simp only[zaJ];split
  ·exact⟨ze0 h1 _,hlt,zfE h3 (by omega)⟩
  ·refine⟨ze0 h1 _,hlt,?_⟩;show(za8 ⟨z,ab,be,no,so⟩ v.num).z.natAbs<=(a+1)*zdv 2099;unfold za8;split
   ·exact zfE h3 (by omega)
   ·split
    ·exact zfE h3 (by omega)
    ·split
     ·exact zfE h3 (by omega)
     ·exact zm0 h3 (zqX v.num)
theorem zlJ {M:Nat}{O:Nat->Prop}{w:World}{b zb:Nat}{s:Agg}(h:AggAt O w b zb s)(ho:AggOk M s)(hS:∀W,Chg (zas b zb) w W->SaysAt W/\Lib.Utf8Tabs 1 2 W){v:Vl}{cs:List Value}(hv:∀W,Chg (zas b zb) w W->VAt (fun _=>True) W v cs)(hfw:VFew v)(hnv:NumI v) :
  Calls Tryz.prog (zdL s) #[.pointer (some ⟨b,0,none⟩),.agg cs.toArray] w (zb6 O w b zb (zaJ (zbs M) s v)):=by
 have ha:=ho.all;have hn:s.nulls<=2147483647:=Nat.le_trans ho.nulls ho.all;have hr:=ho.rest;have hv0:=hv w (Chg.refl _ _);cases s with
 | number a n r=>
  obtain⟨vp,vc,rfl,-⟩:=hv0.shape;exact zmx h ha hn _ _ _ _
 | floats a n z ab be no so=>
  obtain⟨vp,vc,rfl,-⟩:=hv0.shape;exact zmB h ha hn (zfR (by decide) ha hr) _ _ hnv.num _ _
 | wholes a n k z=>
  obtain⟨vp,vc,rfl,-⟩:=hv0.shape;exact zmz h ha hn (zfR (by decide) ha hr) _ _ hnv.num _ _
 | bound a n f most best=>exact znN h hr.1 hr.2.1 ha hn hS hv hfw hnv hr.2.2.2
 | aend a n last one=>exact zp0 _ h ha hn hv0 hfw
 | logic a n l tr=>
  obtain⟨vp,vc,rfl,-⟩:=hv0.shape;exact znG h ha hn _ _ _ _
theorem zoX {M:Nat}{O:Nat->Prop}{w:World}{b zb:Nat}{s:Agg}(h:AggAt O w b zb s)(ho:AggOk M s):Calls Tryz.prog (zeZ s) #[.pointer (some ⟨b,0,none⟩)] w (zd9 w (zb9 s).1 (zb9 s).2):=by
 have ha:=ho.all;have hn:s.nulls<=2147483647:=Nat.le_trans ho.nulls ho.all;have hr:=ho.rest;cases s with
 | number a n r=>exact zlB h ha hn
 | floats a n z ab be no so=>exact zlE h (zfR (by decide) ha hr)
 | wholes a n k z=>exact zlD h (zfR (by decide) ha hr)
 | bound a n f most best=>exact zmG h hr.1 hr.2.2.1
 | aend a n last one=>exact zoQ h hr
 | logic a n l tr=>exact zmy h ha hn
theorem zp4 {O:Nat->Prop}{w:World}{b zb:Nat}{s:Agg}(h:AggAt O w b zb s):Calls Tryz.prog 135 #[.pointer (some ⟨b,0,none⟩)] w (zaz w (.int .i64 (s.all:Int))):=by
 obtain⟨-,-,t,cs,hb,-⟩:=h;exact zky hb
structure FoldAt (O:Nat->Prop)(w:World)(fb b zb:Nat)(op:Int)(f:Fd)(fp:Option Addr)(fc:Nat)(s:Agg):Prop where
 box:BoxN w fb 64 [.int .i64 op,.string f.nm,.bool f.nl,.int .i64 f.k,.int .i64 f.wd,.int .i64 f.id,.int .i64 f.ix,.slice fp f.kids.length fc,.iface (zbe s) (.pointer (some ⟨b,0,none⟩))]
 fld:M.AtL (fun k=>¬O k) w (fdR f) (Fld.f7 f fp fc)
 agg:AggAt O w b zb s
 far:¬O fb
theorem FoldAt.below {O:Nat->Prop}{w w':World}(h:Below w.heap.size w w'){fb b zb:Nat}{op:Int}{f:Fd}{fp:Option Addr}{fc:Nat}{s:Agg}(ha:FoldAt O w fb b zb op f fp fc s):FoldAt O w' fb b zb op f fp fc s:=
 ⟨ha.box.below h ha.box.lt,ha.fld.keep (fun k hk hl=>⟨h.block k hl,hk⟩),ha.agg.below h,ha.far⟩
theorem FoldAt.turn {O:Nat->Prop}{w w':World}{fb b zb:Nat}{op:Int}{f:Fd}{fp:Option Addr}{fc:Nat}{s s':Agg}(ha:FoldAt O w fb b zb op f fp fc s)(hc:Chg (zas b zb) w w')(hs:AggAt O w' b zb s')(ht:zbe s'=zbe s):FoldAt O w' fb b zb op f fp fc s':=by
 have hO:∀k,zas b zb k->O k:=fun k hk=>by rcases hk with e|e;exact e ▸ ha.agg.own.1;exact e ▸ ha.agg.own.2
 refine⟨?_,ha.fld.keep (fun k hk hl=>⟨hc.block k hl (fun h=>hk (hO k h)),hk⟩),hs,ha.far⟩;rw[ht];exact hc.boxN ha.box (fun h=>ha.far (hO _ h))
theorem zjg {O:Nat->Prop}{w:World}{fb b zb:Nat}{op:Int}{f:Fd}{fp:Option Addr}{fc:Nat}{s:Agg}(h:FoldAt O w fb b zb op f fp fc s)(ha:s.all<=2147483647)(n:Int):Calls Tryz.prog 26 #[.pointer (some ⟨fb,0,none⟩),.int .i64 n] w (zaz w (.bool (decide (n<=2147483647-(s.all:Int))))):=by
 have p8:=h.box.row 8 _ rfl;have HR:=zh (zp4 h.agg);have hme:(method 390 (zbe s) (.pointer (some ⟨b,0,none⟩)) "colonnade/fold.rows").run Tryz.prog w=.ok (135,.pointer (some ⟨b,0,none⟩)) w:=(zfq s b w).2.2.2.2;obtain⟨a,haa⟩:∃a,s.all=a:=⟨_,rfl⟩;rw[haa] at HR ha ⊢;clear h haa;generalize zbe s=T at *
 go_in
 go_wp2_with fail;refine HR.o.mono ?_;rintro e w' ⟨rfl,rfl⟩;go_wp2_with fail;go_ret;exact⟨rfl,rfl⟩
theorem ze9 {M:Nat}{O:Nat->Prop}{w:World}{fb b zb:Nat}{op:Int}{f:Fd}{fp:Option Addr}{fc:Nat}{s:Agg}(h:FoldAt O w fb b zb op f fp fc s)(ho:AggOk M s):Calls Tryz.prog 9 #[.pointer (some ⟨fb,0,none⟩)] w (zd9 w (zb9 s).1 (zb9 s).2):=by
 have p8:=h.box.row 8 _ rfl;have hlt:=h.box.lt;obtain⟨W1,hW,a0,hBW⟩:=zao w 39 [.bool false,.int .i64 0,.string ⟨#[]⟩,.slice none 0 0];have HSZ:Hid (W1.heap.size=w.heap.size+1):=zh (by rw[hW];simp only[World.size_alloc]);have HW:=zh hW;have HB:=zh hBW;have HA:=zh a0;have HR:=zh (zoX (h.agg.below (Below.mono hBW (Nat.le_refl _))) ho);have hme:∀w:World,(method 390 (zbe s) (.pointer (some ⟨b,0,none⟩)) "colonnade/fold.value").run Tryz.prog w=.ok (zeZ s,.pointer (some ⟨b,0,none⟩)) w:=fun w=>(zfq s b w).2.2.1;have hen:=(zgP s).2.2.1;obtain⟨R,hR⟩:=Fld.nm (zb9 s);rw[<-hR] at HR ⊢;clear h ho hW a0 hBW hR;generalize zbe s=T at *;generalize zeZ s=FN at *
 go_in
 go_wp2_with fail;rw[<-HW.o];refine HR.o.mono ?_;rintro e W2 ⟨hb2,cs,rfl,hv2⟩;obtain⟨vp,vc,rfl,-⟩:=hv2.shape;have HB2:=zh (HB.o.trans (hb2.mono HB.o.size));have HV2:=zh hv2;have HA2:=zh (HA.o.below hb2 HA.o.lt);obtain⟨z0,z1,z2,z3⟩:=ff4 HA2.o;obtain⟨x0,x1,x2,x3⟩:=rr4 HA2.o.row;have hlt2:=HA2.o.lt;clear hb2 hv2 p8 hme hen;go_wp2_with fail;exact zcw rfl (zaS rfl HA2.o _ _ _ _) (HV2.o.keep (fun k hk hl=>⟨zaQ (by have:=HSZ.o;omega) _ _ _ _,by have:=HSZ.o;omega⟩)) (zbP HB2.o (Nat.le_refl _) _ _ _ _) rfl rfl
theorem zp5 {w:World}{a:Addr}{v:Value}(h:w.cell? a=some v):a.block<w.heap.size:=by
 unfold World.cell? at h;split at h
 ·rename_i hb;exact(Array.getElem?_eq_some_iff.1 hb).1
 ·cases h
theorem AggAt.map {O O':Nat->Prop}{w w':World}{b zb:Nat}{s:Agg}(h:AggAt O w b zb s)(hb:w'.heap[b]?=w.heap[b]?)(hz:w'.heap[zb]?=w.heap[zb]?)(hk:∀k,¬O k->k<w.heap.size->w'.heap[k]?=w.heap[k]?/\¬O' k)(hO:O' b/\O' zb)(hlt:∀k,O' k->k<w'.heap.size):AggAt O' w' b zb s:=by
 obtain⟨-,-,t,cs,h3,h4⟩:=h;refine⟨hO,hlt,t,cs,hb.trans h3,?_⟩;cases s with
 | number a n r=>exact h4
 | logic a n l tr=>exact h4
 | floats a n z ab be no so=>
  obtain⟨h1,h2,h3,h4⟩:=h4;exact⟨h1,h2,h3.keep hz hk,h4⟩
 | wholes a n f z=>
  obtain⟨h1,h2,h3,h4⟩:=h4;exact⟨h1,h2,h3.keep hz hk,h4⟩
 | bound a n f most best=>
  obtain⟨h1,fcs,vcs,h2,h3,h4,h5⟩:=h4;exact⟨h1,fcs,vcs,h2,h3,h4.keep hk,h5.keep hk⟩
 | aend a n last one=>
  obtain⟨h1,vcs,h2,h3⟩:=h4;exact⟨h1,vcs,h2,h3.keep hk⟩
end Go.Fld
namespace Go.Fld
open Go Go.RowKit Go.Proofs Go.ChangeShapes Go.WideShapes Go.ChangeAt Go.Shelf
theorem zlK:∃i z,Tryz.prog.info? 26=some i/\i.zero=some z/\z.cells.size=7/\i.size=7/\i.bytes=80:=by
 obtain⟨i,hi,hzz⟩:=Option.map_eq_some_iff.1 zn7;simp only[Prod.mk.injEq] at hzz;obtain⟨h1,h2,h3⟩:=hzz;obtain⟨z,hz,hs⟩:=Option.map_eq_some_iff.1 h1;exact⟨i,z,hi,hz,hs,h2,h3⟩
theorem zoY {w:World}{f:Fd}{p:Option Addr}{cap:Nat}(hf:FdAt w f (Fld.f7 f p cap))
  (hsm:f.kids.length<=1000000000000)
  (ih:∀g ∈ f.kids,∀(w:World) (p:Option Addr) (cap:Nat),FdAt w g (Fld.f7 g p cap) ->
   Calls Tryz.prog 22 #[.agg #[.string g.nm,.bool g.nl,.int .i64 g.k,.int .i64 g.wd,.int .i64 g.id,.int .i64 g.ix,.slice p g.kids.length cap]] w (zcO w g)) :
  Calls Tryz.prog 22 #[.agg #[.string f.nm,.bool f.nl,.int .i64 f.k,.int .i64 f.wd,.int .i64 f.id,.int .i64 f.ix,.slice p f.kids.length cap]] w (zcO w f):=by
 obtain⟨i1,z1,hi1,hz1,hzc1,hsz1,hby1⟩:=zlK;obtain⟨p',cap',hcs,hk,hnm,ik,iw,ii,ix'⟩:=hf.shape;cases hcs;obtain⟨_,_,e,hl,hm,hC⟩:=hk;cases e;unfold maxLen at hm;have HC:=zh hC;have HI:=zh ih;clear hf ih hC
 go_in
 obtain⟨W,hW⟩:=Fld.nm (((w.alloc (.cells #[.string f.nm,.bool f.nl,.int .i64 f.k,.int .i64 f.wd,.int .i64 f.id,.int .i64 f.ix,.slice p f.kids.length cap] 26)).alloc (.cells #[.string ⟨#[]⟩,.bool false,.int .i64 0,.int .i64 0,.int .i64 0,.int .i64 0,.slice none 0 0] 26)));have a1:BoxN W w.heap.size 26 [Value.string f.nm,.bool f.nl,.int .i64 f.k,.int .i64 f.wd,.int .i64 f.id,.int .i64 f.ix,.slice p f.kids.length cap]:=by
  rw[hW];exact(BoxN.new w 26 [Value.string f.nm,.bool f.nl,.int .i64 f.k,.int .i64 f.wd,.int .i64 f.id,.int .i64 f.ix,.slice p f.kids.length cap]).alloc _
 have a2:BoxN W (w.heap.size+1) 26 [Value.string ⟨#[]⟩,.bool false,.int .i64 0,.int .i64 0,.int .i64 0,.int .i64 0,.slice none 0 0]:=by
  rw[hW];have:=BoxN.new (w.alloc (.cells #[.string f.nm,.bool f.nl,.int .i64 f.k,.int .i64 f.wd,.int .i64 f.id,.int .i64 f.ix,.slice p f.kids.length cap] 26)) 26 [Value.string ⟨#[]⟩,.bool false,.int .i64 0,.int .i64 0,.int .i64 0,.int .i64 0,.slice none 0 0]
  rwa [World.size_alloc] at this
 have hBW:Below w.heap.size w W:=by rw[hW];exact((Below.refl _ w).alloc (Nat.le_refl _) _).alloc (by simp) _
 have hWs:W.heap.size=w.heap.size+2:=by rw[hW];simp
 have A1:=zh a1;have A2:=zh a2;have HBW:=zh hBW;have HWS:=zh hWs;have HW:=zh hW;clear a1 a2 hBW hWs hW;go_wp2_with fail;rw[<-HW.o];clear HW
 go_loopw [3,10] (fun l i wr=>∃(k:Nat) (q:Option Addr) (c:Nat) (css:List (List Value)),k<=f.kids.length/\l=.slice q k c/\i=.int .i64 k/\Hid (RowF wr W.heap.size (.slice q k c) (f.kids.take k) css)/\Hid (Below W.heap.size W wr)) (fun _ i _=>f.kids.length-(intOf i).toNat)
 case atStart=>exact⟨0,none,0,[],by omega,rfl,rfl,zh (RowF.nil _ _),zh (Below.refl _ _)⟩
 case round=>
  obtain⟨k,q,c,css,hk,rfl,rfl,HR,HB⟩:=hrel;have hbw:Below w.heap.size w wr:=HBW.o.trans (HB.o.mono HBW.o.size);have HBR:=zh hbw;have B1:=zh (A1.o.below HB.o A1.o.lt);have B2:=zh (A2.o.below HB.o A2.o.lt);have hsz:=HB.o.size;have hlt2:=B2.o.lt;by_cases hlt:k<f.kids.length
  ·obtain⟨b',o',fq,cap',rfl,e3,c0,c1,c2,c3,c4,c5,c6⟩:=HC.o.seven k hlt;have E3:=zh e3;replace c0:=zaa hbw c0;replace c1:=zaa hbw c1;replace c2:=zaa hbw c2;replace c3:=zaa hbw c3;replace c4:=zaa hbw c4;replace c5:=zaa hbw c5;replace c6:=zaa hbw c6;have HIG:=zh (HI.o f.kids[k] (List.getElem_mem hlt));have HTK:=zh (List.take_succ_eq_append_getElem hlt);clear e3 hbw;generalize hg:f.kids[k]=g at *;have HG:=zh hg;clear hg;go_wp2_with fail;obtain⟨A,hA⟩:=Fld.nm (wr.alloc (.cells #[.string g.nm,.bool g.nl,.int .i64 g.k,.int .i64 g.wd,.int .i64 g.id,.int .i64 g.ix,.slice fq g.kids.length cap'] 26));have BA:Below wr.heap.size wr A:=by rw[hA];exact(Below.refl _ wr).alloc (Nat.le_refl _) _
   rw[<-hA];clear hA;have BAw:=HBR.o.trans (BA.mono HBR.o.size);refine(HIG.o A fq cap' (E3.o.below BAw)).mono ?_;rintro e W1 ⟨p1,cap1,rfl,hfd,hb1⟩;have hb2:Below wr.heap.size wr W1:=BA.trans (hb1.mono BA.size);have hR1:=HR.o.below hb2;have htk:(f.kids.take k).length=k:=by rw[List.length_take];omega
   have hown1:W1.ownsRow W.heap.size 26 7 (.slice q k c) k (css.flatMap id):=by have:=hR1.own;rwa [htk] at this
   have hasz:wr.heap.size<=A.heap.size:=BA.size;have hoff:∀j,(Value.slice q k c).ownBlock=some j->j<wr.heap.size:=fun j e=>(HR.o.own.lt j e).2;have hfd1:FdS (fun b=>W.heap.size<=b/\(Value.slice q k c).ownBlock≠some b) W1 g _:=hfd.mono (fun b hb=>⟨by omega,fun e=>by have:=hoff b e;omega⟩);have hs1:=hb2.size;have HR1:=zh hR1;have HO1:=zh hown1;have HF1:=zh hfd1;have HB2:=zh (HB.o.trans (hb2.mono hsz));have HTL:=zh htk;have hZ:=BoxN.new W1 26 [Value.string g.nm,.bool g.nl,.int .i64 g.k,.int .i64 g.wd,.int .i64 g.id,.int .i64 g.ix,.slice p1 g.kids.length cap1];have HZ:=zh hZ;clear hfd hb1 hb2 hR1 hown1 hfd1 hoff hZ BA BAw htk c0 c1 c2 c3 c4 c5 c6;go_wp2_with (at_builtin;refine wpList_append_lies _ rfl _ _ 22 rfl W.heap.size 26 i1 z1 7 80 zfH hi1 hz1 hsz1 hby1 hzc1 (by decide) (.slice q k c) k (css.flatMap id) rfl (HO1.o.alloc _) ⟨W1.heap.size,0,none⟩ 1 1 [Value.string g.nm,.bool g.nl,.int .i64 g.k,.int .i64 g.wd,.int .i64 g.id,.int .i64 g.ix,.slice p1 g.kids.length cap1] rfl rfl (World.news_of_block HZ.o) (by simp[Value.oneCell']) (by decide) (by unfold maxLen;omega) (by omega) (by simp;omega) (W1.heap.size+1) (by simp) ?_;intro gg cc w2 hown2 hgrow2 hat2 hlt2);refine⟨⟨k+1,some ⟨gg,0,none⟩,cc,css ++ [[Value.string g.nm,.bool g.nl,.int .i64 g.k,.int .i64 g.wd,.int .i64 g.id,.int .i64 g.ix,.slice p1 g.kids.length cap1]],by omega,rfl,by go_num,zh ?_,zh ((HB2.o.alloc HB2.o.size _).grown hgrow2 (by have:=HB2.o.size;simp;omega) (fun j e=>(HO1.o.lt j e).1))⟩,by simp[intOf];omega⟩;rw[HTK.o];exact(HR1.o.below ((Below.refl _ W1).alloc (Nat.le_refl _) _)).push (HF1.o.below ((Below.refl _ W1).alloc (Nat.le_refl _) _)) HTL.o hown2 hgrow2 (by rw[World.size_alloc];exact hat2)
  ·have hkl:k=f.kids.length:=by omega
   have HKL:=zh hkl;obtain⟨r0,r1,r2,r3,r4,r5,r6⟩:=rr7 B1.o.row;have x6:=B1.o.frozen 6;obtain⟨q0,q1,q2,q3,q4,q5,q6⟩:=rr7 B2.o.row;obtain⟨y0,y1,y2,y3,y4,y5,y6⟩:=ff7 B2.o;clear hkl hbw;go_wp2_with fail;have hR:=HR.o;rw[HKL.o,List.take_length] at hR;have hlist:=hR.list;obtain⟨hkc,hcm⟩:=hR.room;rw[HKL.o];have hF:FdS (fun b=>W.heap.size<=b) (wr.setCell ⟨w.heap.size,6,none⟩ (.slice q f.kids.length c)) f (Fld.f7 f q c):=by
    have h1:FdS (fun b=>W.heap.size<=b) wr f (Fld.f7 f q c):=by
     cases f with
     | mk nm nl fk wd id ix kids=>exact FdS.mk' hnm ik iw ii ix' hkc hcm hlist
    exact h1.keep (fun b hs hlt=>⟨Below.heap_setCell _ _ _ b (by have:=HWS.o;show b≠w.heap.size;omega),hs⟩)
   exact zgk (fn:=Tryz.f22) rfl (l:=[_,_,_,_,_,_,_]) rfl (B2.o.other (a:=⟨w.heap.size,6,none⟩) (by simp) _) (by omega) (HBR.o.setCell (p:=⟨w.heap.size,6,none⟩) (Nat.le_refl _) _) (S:=fun b=>W.heap.size<=b) (fun b hb=>by have:=HWS.o;omega) hF rfl
theorem zjh (f:Fd)(ho:okF f):∀(w:World) (p:Option Addr) (cap:Nat),FdAt w f (Fld.f7 f p cap) ->
  Calls Tryz.prog 22 #[.agg #[.string f.nm,.bool f.nl,.int .i64 f.k,.int .i64 f.wd,.int .i64 f.id,.int .i64 f.ix,.slice p f.kids.length cap]] w (zcO w f):=by
 revert ho
 refine zg6 (P:=fun f=>okF f->∀(w:World) (p:Option Addr) (cap:Nat),FdAt w f (Fld.f7 f p cap) ->
  Calls Tryz.prog 22 #[.agg #[.string f.nm,.bool f.nl,.int .i64 f.k,.int .i64 f.wd,.int .i64 f.id,.int .i64 f.ix,.slice p f.kids.length cap]] w (zcO w f)) (fun f ih ho w p cap hf=>?_) f
 obtain⟨_,hk,hl⟩:=zgi ho;exact zoY hf (by omega) (fun g hg w p cap=>ih g hg (zeL hl g hg) w p cap)
theorem zaL {w:World}{f:Fd}{p:Option Addr}{cap:Nat}(hf:FdAt w f (Fld.f7 f p cap))(hS:SaysAt w) :
  Calls Tryz.prog 18 #[.agg #[.string f.nm,.bool f.nl,.int .i64 f.k,.int .i64 f.wd,.int .i64 f.id,.int .i64 f.ix,.slice p f.kids.length cap]] w fun e w'=>e=.returned (.bool (zbN f))/\Below w.heap.size w w':=zlF hf hS
def zgQ (w:World)(r:Fd × Int)(e:Ending)(w':World):Prop:=∃p cap,e=.returned (.tuple #[.agg #[.string r.1.nm,.bool r.1.nl,.int .i64 r.1.k,.int .i64 r.1.wd,.int .i64 r.1.id,.int .i64 r.1.ix,.slice p r.1.kids.length cap],.int .i64 r.2]) /\
 FdAt w' r.1 [.string r.1.nm,.bool r.1.nl,.int .i64 r.1.k,.int .i64 r.1.wd,.int .i64 r.1.id,.int .i64 r.1.ix,.slice p r.1.kids.length cap]/\Below w.heap.size w w'
theorem zil {fn:Func}(hfn:fn.results=#[.cell 4 26,.tmp 5]){W:World}{tmps:Array Value}{rb:Nat}{c0 c1 c2 c3 c4 c5 c6 v:Value}(ht:tmps.getD 4 undef=.pointer (some ⟨rb,0,none⟩))(hv:tmps.getD 5 undef=v)(hw:RowAt W rb [c0,c1,c2,c3,c4,c5,c6]) :
  (results fn tmps).run Tryz.prog W=.ok (.tuple #[.agg #[c0,c1,c2,c3,c4,c5,c6],v]) W:=by
 have h0:=hw 0 _ rfl;have h1:=hw 1 _ rfl;have h2:=hw 2 _ rfl;have h3:=hw 3 _ rfl;have h4:=hw 4 _ rfl;have h5:=hw 5 _ rfl;have h6:=hw 6 _ rfl;rw[Array.getD_eq_getD_getElem?] at ht hv;simp[results,hfn,go_sem,ht,hv,h0,h1,h2,h3,h4,h5,h6]
theorem zoZ {fn:Func}(hfn:fn.results=#[.cell 4 26,.tmp 5]){w W:World}{rb:Nat}{l:List Value}(hl:l.length=7)(hbx:BoxN W rb 26 l)(hw:w.heap.size<=rb)(hB:Below w.heap.size w W){g:Fd}{er:Int}{p:Option Addr}{cap:Nat}{S:Nat->Prop}(hS:∀b,S b->b≠rb)
  (hg:FdS S W g (Fld.f7 g p cap)) {tmps:Array Value} (ht:tmps.getD 4 undef=.pointer (some ⟨rb,0,none⟩)) (hv:tmps.getD 5 undef=.int .i64 er) :
  bodyPost Tryz.prog fn (zgQ w (g,er)) Exit.ret { tmps:=tmps,defers:=[] } (put7 W rb (.string g.nm) (.bool g.nl) (.int .i64 g.k) (.int .i64 g.wd) (.int .i64 g.id) (.int .i64 g.ix) (.slice p g.kids.length cap)):=by
 refine bodyPost_ret (zil hfn ht hv (za0 hl hbx _ _ _ _ _ _ _).row) rfl ⟨p,cap,rfl,?_,zaI hB hw _ _ _ _ _ _ _⟩;exact(hg.keep (T:=S) (fun b hs hlt=>⟨zfj (hS b hs) _ _ _ _ _ _ _,hs⟩)).at
theorem zaX {fn:Func}(hfn:fn.results=#[.cell 4 26,.tmp 5]){w W:World}{rb:Nat}{g:Fd}{er:Int}{p:Option Addr}{cap:Nat}
  (hbx:BoxN W rb 26 (Fld.f7 g p cap)) (hB:Below w.heap.size w W)
  (hg:FdAt W g (Fld.f7 g p cap)) {tmps:Array Value} (ht:tmps.getD 4 undef=.pointer (some ⟨rb,0,none⟩)) (hv:tmps.getD 5 undef=.int .i64 er) :
  bodyPost Tryz.prog fn (zgQ w (g,er)) Exit.ret { tmps:=tmps,defers:=[] } W:=
 bodyPost_ret (zil hfn ht hv hbx.row) rfl ⟨p,cap,rfl,hg,hB⟩
theorem zbv {S:Nat->Prop}{W:World}{nm:ByteArray}(hn:nm.size<=maxLen)(nl:Bool){k:Int}(hk:zah k):FdS S W (zaD nm nl k) [.string nm,.bool nl,.int .i64 k,.int .i64 0,.int .i64 0,.int .i64 0,.slice none 0 0]:=by
 have z:zah 0:=by unfold zah;omega
 exact FdS.mk' (kids:=[]) (p:=none) (cap:=0) hn hk z z z (Nat.le_refl _) (by decide) trivial
theorem FdS.named {S:Nat->Prop}{w:World}{g:Fd}{p:Option Addr}{cap:Nat}(h:FdS S w g (Fld.f7 g p cap)){nm:ByteArray}(hn:nm.size<=maxLen)(nl:Bool) :
  FdS S w (g.named nm nl) [.string nm,.bool nl,.int .i64 g.k,.int .i64 g.wd,.int .i64 g.id,.int .i64 g.ix,.slice p g.kids.length cap]:=by
 cases g with
 | mk nm' nl' fk wd id ix kids=>
  simp only[FdS] at h;obtain⟨_,j1,j2,j3,j4,p9,c9,e9,h9⟩:=h;simp only[Fd.named,FdS];refine⟨hn,j1,j2,j3,j4,p9,c9,?_,h9⟩;simp only[List.cons.injEq] at e9 ⊢;exact⟨trivial,trivial,trivial,trivial,trivial,trivial,e9.2.2.2.2.2.2⟩
theorem FdS.put7 {S:Nat->Prop}{W:World}{g:Fd}{cs:List Value}(h:FdS S W g cs){rb:Nat}(hS:∀b,S b->b≠rb)(c0 c1 c2 c3 c4 c5 c6:Value):FdS S (put7 W rb c0 c1 c2 c3 c4 c5 c6) g cs:=
 h.keep (fun b hs hlt=>⟨zfj (hS b hs) _ _ _ _ _ _ _,hs⟩)
theorem zji {w:World}{f:Fd}{p:Option Addr}{cap:Nat}(op:Int)(hop:zah op)(hf:FdAt w f (Fld.f7 f p cap))(hS:SaysAt w) :
  Calls Tryz.prog 7 #[.int .i64 op,.agg #[.string f.nm,.bool f.nl,.int .i64 f.k,.int .i64 f.wd,.int .i64 f.id,.int .i64 f.ix,.slice p f.kids.length cap]] w (zgQ w (zbk op f)):=by
 obtain⟨p',cap',hcs,hk,hnm,ik,iw,ii,ix'⟩:=hf.shape;cases hcs;have HF:=zh hf;have HS:=zh hS;clear hf hS hk;obtain⟨W,hW⟩:=Fld.nm ((w.alloc (.cells #[.string f.nm,.bool f.nl,.int .i64 f.k,.int .i64 f.wd,.int .i64 f.id,.int .i64 f.ix,.slice p f.kids.length cap] 26)).alloc (.cells #[.string ⟨#[]⟩,.bool false,.int .i64 0,.int .i64 0,.int .i64 0,.int .i64 0,.slice none 0 0] 26));have a1:BoxN W w.heap.size 26 (Fld.f7 f p cap):=by
  rw[hW];exact(BoxN.new w 26 (Fld.f7 f p cap)).alloc _
 have a2:BoxN W (w.heap.size+1) 26 [.string ⟨#[]⟩,.bool false,.int .i64 0,.int .i64 0,.int .i64 0,.int .i64 0,.slice none 0 0]:=by
  rw[hW];have:=BoxN.new (w.alloc (.cells #[.string f.nm,.bool f.nl,.int .i64 f.k,.int .i64 f.wd,.int .i64 f.id,.int .i64 f.ix,.slice p f.kids.length cap] 26)) 26 [.string ⟨#[]⟩,.bool false,.int .i64 0,.int .i64 0,.int .i64 0,.int .i64 0,.slice none 0 0]
  rwa [World.size_alloc] at this
 have hBW:Below w.heap.size w W:=by rw[hW];exact((Below.refl _ w).alloc (Nat.le_refl _) _).alloc (by simp) _
 have hWs:W.heap.size=w.heap.size+2:=by rw[hW];simp
 have A1:=zh a1;have A2:=zh a2;have HBW:=zh hBW;have HWS:=zh hWs;have HW:=zh hW;clear a1 a2 hBW hWs hW;obtain⟨res,hres⟩:∃r,r=zbk op f:=⟨_,rfl⟩;rw[<-hres];unfold zbk at hres;have HR:=zh hres;clear hres
 go_in
 go_wp2_with fail;rw[<-HW.o];clear HW;refine(zaL (HF.o.below HBW.o) (HS.o.below HBW.o)).mono ?_;rintro e W1 ⟨rfl,hb1⟩;have HM:=zh (show zbN f=zbN f from rfl);obtain⟨mb,hmb⟩:∃b,b=zbN f:=⟨_,rfl⟩;rw[<-hmb] at HR ⊢;have HMB:=zh hmb;have HB1:=zh (HBW.o.trans (hb1.mono HBW.o.size));have B1:=zh (A1.o.below hb1 A1.o.lt);have B2:=zh (A2.o.below hb1 A2.o.lt);clear hmb hb1 HM;have hl1:=B2.o.lt;have hl10:=B1.o.lt;obtain⟨r0,r1,r2,r3,r4,r5,r6⟩:=rr7 B1.o.row;obtain⟨q0,q1,q2,q3,q4,q5,q6⟩:=rr7 B2.o.row;obtain⟨y0,y1,y2,y3,y4,y5,y6⟩:=ff7 B2.o;cases mb with
 | false=>
  have e:res=(noF,5):=by rw[HR.o,if_pos rfl]
  have HE:=zh e;clear e;go_wp2_with fail;rw[HE.o];exact zoZ (fn:=Tryz.f7) (g:=noF) rfl (l:=[_,_,_,_,_,_,_]) rfl B2.o (by omega) HB1.o (S:=fun _=>False) (fun b h=>h.elim) (zbv (nm:=⟨#[]⟩) (by decide) false (k:=0) (by unfold zah;omega)) rfl rfl
 | true=>
 replace HR:=zh (show _ from by have:=HR.o;rw[if_neg (by decide)] at this;exact this);go_wp2_with fail;refine(ziQ f (zgJ (by rw[<-HMB.o])) W1 p cap (HF.o.below HB1.o)).mono ?_;rintro e W2 ⟨bp,bc,rfl,hfd,hb2⟩;have hnme:=zpY f;obtain⟨g,hg⟩:=Fld.nm (zax f);rw[<-hg] at hfd hnme HR ⊢;obtain⟨gp,gcap,hgc,hgk,hgnm,gik,giw,gii,gix⟩:=hfd.at.shape;cases hgc;have HG:=zh hg;have HFD:=zh hfd;have HB2:=zh (HB1.o.trans (hb2.mono HB1.o.size));have C1:=zh (B1.o.below hb2 B1.o.lt);have C2:=zh (B2.o.below hb2 B2.o.lt);have HGNM:=zh hnme;have hs2:=hb2.size;clear hg hfd hb2 hnme hgk r0 r1 r2 r3 r4 r5 r6 q0 q1 q2 q3 q4 q5 q6 y0 y1 y2 y3 y4 y5 y6;have hl2:=C2.o.lt;have hl20:=C1.o.lt;obtain⟨r0,r1,r2,r3,r4,r5,r6⟩:=rr7 C1.o.row;obtain⟨q0,q1,q2,q3,q4,q5,q6⟩:=rr7 C2.o.row;obtain⟨y0,y1,y2,y3,y4,y5,y6⟩:=ff7 C2.o;have hnn:=zii (f:=f) (by rw[<-HMB.o]);have HNN:=zh hnn;clear hnn;unfold zah at hop gik;by_cases o1:op=1\/op=2
 ·have e:res=(zaD f.nm false 6,0):=by rw[HR.o,if_pos o1]
  have HE:=zh e;clear e HR;rcases o1 with rfl|rfl <;>
  (go_wp2_with fail
   rw[HE.o];refine zaX (fn:=Tryz.f7) (g:=zaD f.nm false 6) (rb:=w.heap.size+1) (p:=none) (cap:=0) rfl (((za0 (l:=[_,_,_,_,_,_,_]) rfl C2.o _ _ _ _ _ _ _).alloc _).alloc _) (((zaI HB2.o (by omega) _ _ _ _ _ _ _).alloc (by have:=HB2.o.size;simp[put7];omega) _).alloc (by have:=HB2.o.size;simp[put7];omega) _) (zbv (S:=fun _=>True) hnm false (by unfold zah;omega)).at rfl rfl)
 have HO1:=zh o1;have n1:(op == 1)=false:=by rw[beq_eq_false_iff_ne];exact fun e=>o1 (.inl e)
 have n2:(op == 2)=false:=by rw[beq_eq_false_iff_ne];exact fun e=>o1 (.inr e)
 replace HR:=zh (show _ from by have:=HR.o;rw[if_neg o1] at this;exact this);clear o1;by_cases o3:op=3
 ·replace HR:=zh (show _ from by have:=HR.o;rw[if_pos o3] at this;exact this);subst o3;clear n1 n2;by_cases ka:3<=g.k/\g.k<=6
  ·have e:res=(zaD f.nm true 6,0):=by rw[HR.o,if_pos ka]
   have HE:=zh e;clear e HR;go_wp2_with fail;obtain⟨Y,hY⟩:=Fld.nm ((W2.alloc (.cells #[.string g.nm,.bool g.nl,.int .i64 g.k,.int .i64 g.wd,.int .i64 g.id,.int .i64 g.ix,.slice bp g.kids.length bc] 26)).alloc (.cells #[.string f.nm,.bool true,.int .i64 6,.int .i64 0,.int .i64 0,.int .i64 0,.slice none 0 0] 26));have oY:BoxN Y (W2.heap.size+1) 26 [Value.string f.nm,.bool true,.int .i64 6,.int .i64 0,.int .i64 0,.int .i64 0,.slice none 0 0]:=by
    rw[hY];have:=BoxN.new (W2.alloc (.cells #[.string g.nm,.bool g.nl,.int .i64 g.k,.int .i64 g.wd,.int .i64 g.id,.int .i64 g.ix,.slice bp g.kids.length bc] 26)) 26 [Value.string f.nm,.bool true,.int .i64 6,.int .i64 0,.int .i64 0,.int .i64 0,.slice none 0 0]
    rwa [World.size_alloc] at this
   have hBY:Below W2.heap.size W2 Y:=by rw[hY];exact((Below.refl _ W2).alloc (Nat.le_refl _) _).alloc (by simp) _
   have hBYw:Below w.heap.size w Y:=HB2.o.trans (hBY.mono HB2.o.size);rw[<-hY];clear hY r0 r1 r2 r3 r4 r5 r6 q0 q1 q2 q3 q4 q5 q6 y0 y1 y2 y3 y4 y5 y6;refine(zaL (f:=zaD f.nm true 6) (p:=none) (cap:=0) ((zbv (S:=fun _=>True) hnm true (by unfold zah;omega)).at) (HS.o.below hBYw)).mono ?_;rintro e W3 ⟨rfl,hb3⟩;have HB3:=zh (hBYw.trans (hb3.mono hBYw.size));have hBW3:Below W2.heap.size W2 W3:=hBY.trans (hb3.mono hBY.size);have D2:=zh (C2.o.below hBW3 C2.o.lt);have OY:=zh (oY.below hb3 oY.lt);have HBW3:=zh hBW3;clear hBY hBYw hb3 oY hBW3;have hl3:=D2.o.lt;have hl4:=OY.o.lt;obtain⟨r0,r1,r2,r3,r4,r5,r6⟩:=rr7 OY.o.row;obtain⟨q0,q1,q2,q3,q4,q5,q6⟩:=rr7 D2.o.row;obtain⟨y0,y1,y2,y3,y4,y5,y6⟩:=ff7 D2.o;rw[zcA HNN.o true (by decide) (by decide)];go_wp2_with fail;rw[HE.o];exact zaX (fn:=Tryz.f7) (g:=zaD f.nm true 6) (rb:=w.heap.size+1) (p:=none) (cap:=0) rfl (za0 (l:=[_,_,_,_,_,_,_]) rfl D2.o _ _ _ _ _ _ _) (zaI HB3.o (by omega) _ _ _ _ _ _ _) ((zbv (S:=fun _=>True) hnm true (by unfold zah;omega)).at) rfl rfl
  by_cases kb:7<=g.k/\g.k<=10
  ·have e:res=(zaD f.nm true 10,0):=by rw[HR.o,if_neg ka,if_pos kb]
   clear ka;have HE:=zh e;clear e HR;go_wp2_with fail;obtain⟨Y,hY⟩:=Fld.nm ((W2.alloc (.cells #[.string g.nm,.bool g.nl,.int .i64 g.k,.int .i64 g.wd,.int .i64 g.id,.int .i64 g.ix,.slice bp g.kids.length bc] 26)).alloc (.cells #[.string f.nm,.bool true,.int .i64 10,.int .i64 0,.int .i64 0,.int .i64 0,.slice none 0 0] 26));have oY:BoxN Y (W2.heap.size+1) 26 [Value.string f.nm,.bool true,.int .i64 10,.int .i64 0,.int .i64 0,.int .i64 0,.slice none 0 0]:=by
    rw[hY];have:=BoxN.new (W2.alloc (.cells #[.string g.nm,.bool g.nl,.int .i64 g.k,.int .i64 g.wd,.int .i64 g.id,.int .i64 g.ix,.slice bp g.kids.length bc] 26)) 26 [Value.string f.nm,.bool true,.int .i64 10,.int .i64 0,.int .i64 0,.int .i64 0,.slice none 0 0]
    rwa [World.size_alloc] at this
   have hBY:Below W2.heap.size W2 Y:=by rw[hY];exact((Below.refl _ W2).alloc (Nat.le_refl _) _).alloc (by simp) _
   have hBYw:Below w.heap.size w Y:=HB2.o.trans (hBY.mono HB2.o.size);rw[<-hY];clear hY r0 r1 r2 r3 r4 r5 r6 q0 q1 q2 q3 q4 q5 q6 y0 y1 y2 y3 y4 y5 y6;refine(zaL (f:=zaD f.nm true 10) (p:=none) (cap:=0) ((zbv (S:=fun _=>True) hnm true (by unfold zah;omega)).at) (HS.o.below hBYw)).mono ?_;rintro e W3 ⟨rfl,hb3⟩;have HB3:=zh (hBYw.trans (hb3.mono hBYw.size));have hBW3:Below W2.heap.size W2 W3:=hBY.trans (hb3.mono hBY.size);have D2:=zh (C2.o.below hBW3 C2.o.lt);have OY:=zh (oY.below hb3 oY.lt);have HBW3:=zh hBW3;clear hBY hBYw hb3 oY hBW3;have hl3:=D2.o.lt;have hl4:=OY.o.lt;obtain⟨r0,r1,r2,r3,r4,r5,r6⟩:=rr7 OY.o.row;obtain⟨q0,q1,q2,q3,q4,q5,q6⟩:=rr7 D2.o.row;obtain⟨y0,y1,y2,y3,y4,y5,y6⟩:=ff7 D2.o;rw[zcA HNN.o true (by decide) (by decide)];go_wp2_with fail;rw[HE.o];exact zaX (fn:=Tryz.f7) (g:=zaD f.nm true 10) (rb:=w.heap.size+1) (p:=none) (cap:=0) rfl (za0 (l:=[_,_,_,_,_,_,_]) rfl D2.o _ _ _ _ _ _ _) (zaI HB3.o (by omega) _ _ _ _ _ _ _) ((zbv (S:=fun _=>True) hnm true (by unfold zah;omega)).at) rfl rfl
  by_cases kc:g.k=11
  ·have e:res=(zaD f.nm true 11,0):=by rw[HR.o,if_neg ka,if_neg kb,if_pos kc]
   have k11:(g.k == 11)=true:=by rw[kc];rfl
   have k12:11<=g.k:=by omega
   clear ka kb kc;have HE:=zh e;clear e HR;go_wp2_with fail;obtain⟨Y,hY⟩:=Fld.nm ((W2.alloc (.cells #[.string g.nm,.bool g.nl,.int .i64 g.k,.int .i64 g.wd,.int .i64 g.id,.int .i64 g.ix,.slice bp g.kids.length bc] 26)).alloc (.cells #[.string f.nm,.bool true,.int .i64 11,.int .i64 0,.int .i64 0,.int .i64 0,.slice none 0 0] 26));have oY:BoxN Y (W2.heap.size+1) 26 [Value.string f.nm,.bool true,.int .i64 11,.int .i64 0,.int .i64 0,.int .i64 0,.slice none 0 0]:=by
    rw[hY];have:=BoxN.new (W2.alloc (.cells #[.string g.nm,.bool g.nl,.int .i64 g.k,.int .i64 g.wd,.int .i64 g.id,.int .i64 g.ix,.slice bp g.kids.length bc] 26)) 26 [Value.string f.nm,.bool true,.int .i64 11,.int .i64 0,.int .i64 0,.int .i64 0,.slice none 0 0]
    rwa [World.size_alloc] at this
   have hBY:Below W2.heap.size W2 Y:=by rw[hY];exact((Below.refl _ W2).alloc (Nat.le_refl _) _).alloc (by simp) _
   have hBYw:Below w.heap.size w Y:=HB2.o.trans (hBY.mono HB2.o.size);rw[<-hY];clear hY r0 r1 r2 r3 r4 r5 r6 q0 q1 q2 q3 q4 q5 q6 y0 y1 y2 y3 y4 y5 y6;refine(zaL (f:=zaD f.nm true 11) (p:=none) (cap:=0) ((zbv (S:=fun _=>True) hnm true (by unfold zah;omega)).at) (HS.o.below hBYw)).mono ?_;rintro e W3 ⟨rfl,hb3⟩;have HB3:=zh (hBYw.trans (hb3.mono hBYw.size));have hBW3:Below W2.heap.size W2 W3:=hBY.trans (hb3.mono hBY.size);have D2:=zh (C2.o.below hBW3 C2.o.lt);have OY:=zh (oY.below hb3 oY.lt);have HBW3:=zh hBW3;clear hBY hBYw hb3 oY hBW3;have hl3:=D2.o.lt;have hl4:=OY.o.lt;obtain⟨r0,r1,r2,r3,r4,r5,r6⟩:=rr7 OY.o.row;obtain⟨q0,q1,q2,q3,q4,q5,q6⟩:=rr7 D2.o.row;obtain⟨y0,y1,y2,y3,y4,y5,y6⟩:=ff7 D2.o;rw[zcA HNN.o true (by decide) (by decide)];go_wp2_with fail;rw[HE.o];exact zaX (fn:=Tryz.f7) (g:=zaD f.nm true 11) (rb:=w.heap.size+1) (p:=none) (cap:=0) rfl (za0 (l:=[_,_,_,_,_,_,_]) rfl D2.o _ _ _ _ _ _ _) (zaI HB3.o (by omega) _ _ _ _ _ _ _) ((zbv (S:=fun _=>True) hnm true (by unfold zah;omega)).at) rfl rfl
  ·have e:res=(noF,5):=by rw[HR.o,if_neg ka,if_neg kb,if_neg kc]
   have k11:(g.k == 11)=false:=by rw[beq_eq_false_iff_ne];exact kc
   rcases(show g.k<3\/12<=g.k by omega) with kx|kx
   ·clear ka kb kc;have HE:=zh e;clear e HR;go_wp2_with fail;obtain⟨Y,hY⟩:=Fld.nm ((W2.alloc (.cells #[.string g.nm,.bool g.nl,.int .i64 g.k,.int .i64 g.wd,.int .i64 g.id,.int .i64 g.ix,.slice bp g.kids.length bc] 26)).alloc (.cells #[.string f.nm,.bool true,.int .i64 0,.int .i64 0,.int .i64 0,.int .i64 0,.slice none 0 0] 26));have oY:BoxN Y (W2.heap.size+1) 26 [Value.string f.nm,.bool true,.int .i64 0,.int .i64 0,.int .i64 0,.int .i64 0,.slice none 0 0]:=by
     rw[hY];have:=BoxN.new (W2.alloc (.cells #[.string g.nm,.bool g.nl,.int .i64 g.k,.int .i64 g.wd,.int .i64 g.id,.int .i64 g.ix,.slice bp g.kids.length bc] 26)) 26 [Value.string f.nm,.bool true,.int .i64 0,.int .i64 0,.int .i64 0,.int .i64 0,.slice none 0 0]
     rwa [World.size_alloc] at this
    have hBY:Below W2.heap.size W2 Y:=by rw[hY];exact((Below.refl _ W2).alloc (Nat.le_refl _) _).alloc (by simp) _
    have hBYw:Below w.heap.size w Y:=HB2.o.trans (hBY.mono HB2.o.size);rw[<-hY];clear hY r0 r1 r2 r3 r4 r5 r6 q0 q1 q2 q3 q4 q5 q6 y0 y1 y2 y3 y4 y5 y6;refine(zaL (f:=zaD f.nm true 0) (p:=none) (cap:=0) ((zbv (S:=fun _=>True) hnm true (by unfold zah;omega)).at) (HS.o.below hBYw)).mono ?_;rintro e W3 ⟨rfl,hb3⟩;have HB3:=zh (hBYw.trans (hb3.mono hBYw.size));have hBW3:Below W2.heap.size W2 W3:=hBY.trans (hb3.mono hBY.size);have D2:=zh (C2.o.below hBW3 C2.o.lt);have OY:=zh (oY.below hb3 oY.lt);have HBW3:=zh hBW3;clear hBY hBYw hb3 oY hBW3;have hl3:=D2.o.lt;have hl4:=OY.o.lt;obtain⟨r0,r1,r2,r3,r4,r5,r6⟩:=rr7 OY.o.row;obtain⟨q0,q1,q2,q3,q4,q5,q6⟩:=rr7 D2.o.row;obtain⟨y0,y1,y2,y3,y4,y5,y6⟩:=ff7 D2.o;rw[zgK HNN.o true];go_wp2_with fail;rw[HE.o];exact zaX (fn:=Tryz.f7) (g:=noF) (rb:=w.heap.size+1) (p:=none) (cap:=0) rfl (za0 (l:=[_,_,_,_,_,_,_]) rfl D2.o _ _ _ _ _ _ _) (zaI HB3.o (by omega) _ _ _ _ _ _ _) ((zbv (S:=fun _=>True) (nm:=⟨#[]⟩) (by decide) false (by unfold zah;omega)).at) rfl rfl
   ·clear ka kb kc;have HE:=zh e;clear e HR;go_wp2_with fail;obtain⟨Y,hY⟩:=Fld.nm ((W2.alloc (.cells #[.string g.nm,.bool g.nl,.int .i64 g.k,.int .i64 g.wd,.int .i64 g.id,.int .i64 g.ix,.slice bp g.kids.length bc] 26)).alloc (.cells #[.string f.nm,.bool true,.int .i64 0,.int .i64 0,.int .i64 0,.int .i64 0,.slice none 0 0] 26));have oY:BoxN Y (W2.heap.size+1) 26 [Value.string f.nm,.bool true,.int .i64 0,.int .i64 0,.int .i64 0,.int .i64 0,.slice none 0 0]:=by
     rw[hY];have:=BoxN.new (W2.alloc (.cells #[.string g.nm,.bool g.nl,.int .i64 g.k,.int .i64 g.wd,.int .i64 g.id,.int .i64 g.ix,.slice bp g.kids.length bc] 26)) 26 [Value.string f.nm,.bool true,.int .i64 0,.int .i64 0,.int .i64 0,.int .i64 0,.slice none 0 0]
     rwa [World.size_alloc] at this
    have hBY:Below W2.heap.size W2 Y:=by rw[hY];exact((Below.refl _ W2).alloc (Nat.le_refl _) _).alloc (by simp) _
    have hBYw:Below w.heap.size w Y:=HB2.o.trans (hBY.mono HB2.o.size);rw[<-hY];clear hY r0 r1 r2 r3 r4 r5 r6 q0 q1 q2 q3 q4 q5 q6 y0 y1 y2 y3 y4 y5 y6;refine(zaL (f:=zaD f.nm true 0) (p:=none) (cap:=0) ((zbv (S:=fun _=>True) hnm true (by unfold zah;omega)).at) (HS.o.below hBYw)).mono ?_;rintro e W3 ⟨rfl,hb3⟩;have HB3:=zh (hBYw.trans (hb3.mono hBYw.size));have hBW3:Below W2.heap.size W2 W3:=hBY.trans (hb3.mono hBY.size);have D2:=zh (C2.o.below hBW3 C2.o.lt);have OY:=zh (oY.below hb3 oY.lt);have HBW3:=zh hBW3;clear hBY hBYw hb3 oY hBW3;have hl3:=D2.o.lt;have hl4:=OY.o.lt;obtain⟨r0,r1,r2,r3,r4,r5,r6⟩:=rr7 OY.o.row;obtain⟨q0,q1,q2,q3,q4,q5,q6⟩:=rr7 D2.o.row;obtain⟨y0,y1,y2,y3,y4,y5,y6⟩:=ff7 D2.o;rw[zgK HNN.o true];go_wp2_with fail;rw[HE.o];exact zaX (fn:=Tryz.f7) (g:=noF) (rb:=w.heap.size+1) (p:=none) (cap:=0) rfl (za0 (l:=[_,_,_,_,_,_,_]) rfl D2.o _ _ _ _ _ _ _) (zaI HB3.o (by omega) _ _ _ _ _ _ _) ((zbv (S:=fun _=>True) (nm:=⟨#[]⟩) (by decide) false (by unfold zah;omega)).at) rfl rfl
 have n3:(op == 3)=false:=by rw[beq_eq_false_iff_ne];exact o3
 replace HR:=zh (show _ from by have:=HR.o;rw[if_neg o3] at this;exact this);by_cases o4:4<=op/\op<=7
 ·replace HR:=zh (show _ from by have:=HR.o;rw[if_pos o4] at this;exact this);have hgn:g.named f.nm true=g.named g.nm true:=by rw[HGNM.o]
  have HGN:=zh hgn;have hor:op=4\/op=5\/op=6\/op=7:=by omega
  clear hgn o4 o3 hop n1 n2 n3;cases hm2:zbN (g.named g.nm true) with
  | true=>
   have e:res=(g.named g.nm true,0):=by rw[HR.o,HGN.o,if_pos hm2]
   have HM2:=zh hm2;clear hm2;rcases hor with rfl|rfl|rfl|rfl
   ·have HE:=zh e;clear e HR;go_wp2_with fail;obtain⟨Y,hY⟩:=Fld.nm ((W2.alloc (.cells #[.string g.nm,.bool g.nl,.int .i64 g.k,.int .i64 g.wd,.int .i64 g.id,.int .i64 g.ix,.slice bp g.kids.length bc] 26)).alloc (.cells #[.string g.nm,.bool true,.int .i64 g.k,.int .i64 g.wd,.int .i64 g.id,.int .i64 g.ix,.slice bp g.kids.length bc] 26));have oY:BoxN Y (W2.heap.size+1) 26 [Value.string g.nm,.bool true,.int .i64 g.k,.int .i64 g.wd,.int .i64 g.id,.int .i64 g.ix,.slice bp g.kids.length bc]:=by
     rw[hY];have:=BoxN.new (W2.alloc (.cells #[.string g.nm,.bool g.nl,.int .i64 g.k,.int .i64 g.wd,.int .i64 g.id,.int .i64 g.ix,.slice bp g.kids.length bc] 26)) 26 [Value.string g.nm,.bool true,.int .i64 g.k,.int .i64 g.wd,.int .i64 g.id,.int .i64 g.ix,.slice bp g.kids.length bc]
     rwa [World.size_alloc] at this
    have hBY:Below W2.heap.size W2 Y:=by rw[hY];exact((Below.refl _ W2).alloc (Nat.le_refl _) _).alloc (by simp) _
    have hBYw:Below w.heap.size w Y:=HB2.o.trans (hBY.mono HB2.o.size);rw[<-hY];clear hY r0 r1 r2 r3 r4 r5 r6 q0 q1 q2 q3 q4 q5 q6 y0 y1 y2 y3 y4 y5 y6;refine(zaL (f:=g.named g.nm true) (p:=bp) (cap:=bc) ((HFD.o.at.below hBY).named hgnm true) (HS.o.below hBYw)).mono ?_;rintro e W3 ⟨rfl,hb3⟩;have HB3:=zh (hBYw.trans (hb3.mono hBYw.size));have hBW3:Below W2.heap.size W2 W3:=hBY.trans (hb3.mono hBY.size);have D2:=zh (C2.o.below hBW3 C2.o.lt);have OY:=zh (oY.below hb3 oY.lt);have HBW3:=zh hBW3;clear hBY hBYw hb3 oY hBW3;have hl3:=D2.o.lt;have hl4:=OY.o.lt;obtain⟨r0,r1,r2,r3,r4,r5,r6⟩:=rr7 OY.o.row;obtain⟨q0,q1,q2,q3,q4,q5,q6⟩:=rr7 D2.o.row;obtain⟨y0,y1,y2,y3,y4,y5,y6⟩:=ff7 D2.o;rw[HM2.o];go_wp2_with fail;rw[HE.o];exact zaX (fn:=Tryz.f7) (g:=g.named g.nm true) (rb:=w.heap.size+1) (p:=bp) (cap:=bc) rfl (za0 (l:=[_,_,_,_,_,_,_]) rfl D2.o _ _ _ _ _ _ _) (zaI HB3.o (by omega) _ _ _ _ _ _ _) (((((HFD.o.below HBW3.o).named hgnm true).put7 (fun b hb=>by have hb':W1.heap.size<=b:=hb;omega) _ _ _ _ _ _ _)).at) rfl rfl
   ·have HE:=zh e;clear e HR;go_wp2_with fail;obtain⟨Y,hY⟩:=Fld.nm ((W2.alloc (.cells #[.string g.nm,.bool g.nl,.int .i64 g.k,.int .i64 g.wd,.int .i64 g.id,.int .i64 g.ix,.slice bp g.kids.length bc] 26)).alloc (.cells #[.string g.nm,.bool true,.int .i64 g.k,.int .i64 g.wd,.int .i64 g.id,.int .i64 g.ix,.slice bp g.kids.length bc] 26));have oY:BoxN Y (W2.heap.size+1) 26 [Value.string g.nm,.bool true,.int .i64 g.k,.int .i64 g.wd,.int .i64 g.id,.int .i64 g.ix,.slice bp g.kids.length bc]:=by
     rw[hY];have:=BoxN.new (W2.alloc (.cells #[.string g.nm,.bool g.nl,.int .i64 g.k,.int .i64 g.wd,.int .i64 g.id,.int .i64 g.ix,.slice bp g.kids.length bc] 26)) 26 [Value.string g.nm,.bool true,.int .i64 g.k,.int .i64 g.wd,.int .i64 g.id,.int .i64 g.ix,.slice bp g.kids.length bc]
     rwa [World.size_alloc] at this
    have hBY:Below W2.heap.size W2 Y:=by rw[hY];exact((Below.refl _ W2).alloc (Nat.le_refl _) _).alloc (by simp) _
    have hBYw:Below w.heap.size w Y:=HB2.o.trans (hBY.mono HB2.o.size);rw[<-hY];clear hY r0 r1 r2 r3 r4 r5 r6 q0 q1 q2 q3 q4 q5 q6 y0 y1 y2 y3 y4 y5 y6;refine(zaL (f:=g.named g.nm true) (p:=bp) (cap:=bc) ((HFD.o.at.below hBY).named hgnm true) (HS.o.below hBYw)).mono ?_;rintro e W3 ⟨rfl,hb3⟩;have HB3:=zh (hBYw.trans (hb3.mono hBYw.size));have hBW3:Below W2.heap.size W2 W3:=hBY.trans (hb3.mono hBY.size);have D2:=zh (C2.o.below hBW3 C2.o.lt);have OY:=zh (oY.below hb3 oY.lt);have HBW3:=zh hBW3;clear hBY hBYw hb3 oY hBW3;have hl3:=D2.o.lt;have hl4:=OY.o.lt;obtain⟨r0,r1,r2,r3,r4,r5,r6⟩:=rr7 OY.o.row;obtain⟨q0,q1,q2,q3,q4,q5,q6⟩:=rr7 D2.o.row;obtain⟨y0,y1,y2,y3,y4,y5,y6⟩:=ff7 D2.o;rw[HM2.o];go_wp2_with fail;rw[HE.o];exact zaX (fn:=Tryz.f7) (g:=g.named g.nm true) (rb:=w.heap.size+1) (p:=bp) (cap:=bc) rfl (za0 (l:=[_,_,_,_,_,_,_]) rfl D2.o _ _ _ _ _ _ _) (zaI HB3.o (by omega) _ _ _ _ _ _ _) (((((HFD.o.below HBW3.o).named hgnm true).put7 (fun b hb=>by have hb':W1.heap.size<=b:=hb;omega) _ _ _ _ _ _ _)).at) rfl rfl
   ·have HE:=zh e;clear e HR;go_wp2_with fail;obtain⟨Y,hY⟩:=Fld.nm ((W2.alloc (.cells #[.string g.nm,.bool g.nl,.int .i64 g.k,.int .i64 g.wd,.int .i64 g.id,.int .i64 g.ix,.slice bp g.kids.length bc] 26)).alloc (.cells #[.string g.nm,.bool true,.int .i64 g.k,.int .i64 g.wd,.int .i64 g.id,.int .i64 g.ix,.slice bp g.kids.length bc] 26));have oY:BoxN Y (W2.heap.size+1) 26 [Value.string g.nm,.bool true,.int .i64 g.k,.int .i64 g.wd,.int .i64 g.id,.int .i64 g.ix,.slice bp g.kids.length bc]:=by
     rw[hY];have:=BoxN.new (W2.alloc (.cells #[.string g.nm,.bool g.nl,.int .i64 g.k,.int .i64 g.wd,.int .i64 g.id,.int .i64 g.ix,.slice bp g.kids.length bc] 26)) 26 [Value.string g.nm,.bool true,.int .i64 g.k,.int .i64 g.wd,.int .i64 g.id,.int .i64 g.ix,.slice bp g.kids.length bc]
     rwa [World.size_alloc] at this
    have hBY:Below W2.heap.size W2 Y:=by rw[hY];exact((Below.refl _ W2).alloc (Nat.le_refl _) _).alloc (by simp) _
    have hBYw:Below w.heap.size w Y:=HB2.o.trans (hBY.mono HB2.o.size);rw[<-hY];clear hY r0 r1 r2 r3 r4 r5 r6 q0 q1 q2 q3 q4 q5 q6 y0 y1 y2 y3 y4 y5 y6;refine(zaL (f:=g.named g.nm true) (p:=bp) (cap:=bc) ((HFD.o.at.below hBY).named hgnm true) (HS.o.below hBYw)).mono ?_;rintro e W3 ⟨rfl,hb3⟩;have HB3:=zh (hBYw.trans (hb3.mono hBYw.size));have hBW3:Below W2.heap.size W2 W3:=hBY.trans (hb3.mono hBY.size);have D2:=zh (C2.o.below hBW3 C2.o.lt);have OY:=zh (oY.below hb3 oY.lt);have HBW3:=zh hBW3;clear hBY hBYw hb3 oY hBW3;have hl3:=D2.o.lt;have hl4:=OY.o.lt;obtain⟨r0,r1,r2,r3,r4,r5,r6⟩:=rr7 OY.o.row;obtain⟨q0,q1,q2,q3,q4,q5,q6⟩:=rr7 D2.o.row;obtain⟨y0,y1,y2,y3,y4,y5,y6⟩:=ff7 D2.o;rw[HM2.o];go_wp2_with fail;rw[HE.o];exact zaX (fn:=Tryz.f7) (g:=g.named g.nm true) (rb:=w.heap.size+1) (p:=bp) (cap:=bc) rfl (za0 (l:=[_,_,_,_,_,_,_]) rfl D2.o _ _ _ _ _ _ _) (zaI HB3.o (by omega) _ _ _ _ _ _ _) (((((HFD.o.below HBW3.o).named hgnm true).put7 (fun b hb=>by have hb':W1.heap.size<=b:=hb;omega) _ _ _ _ _ _ _)).at) rfl rfl
   ·have HE:=zh e;clear e HR;go_wp2_with fail;obtain⟨Y,hY⟩:=Fld.nm ((W2.alloc (.cells #[.string g.nm,.bool g.nl,.int .i64 g.k,.int .i64 g.wd,.int .i64 g.id,.int .i64 g.ix,.slice bp g.kids.length bc] 26)).alloc (.cells #[.string g.nm,.bool true,.int .i64 g.k,.int .i64 g.wd,.int .i64 g.id,.int .i64 g.ix,.slice bp g.kids.length bc] 26));have oY:BoxN Y (W2.heap.size+1) 26 [Value.string g.nm,.bool true,.int .i64 g.k,.int .i64 g.wd,.int .i64 g.id,.int .i64 g.ix,.slice bp g.kids.length bc]:=by
     rw[hY];have:=BoxN.new (W2.alloc (.cells #[.string g.nm,.bool g.nl,.int .i64 g.k,.int .i64 g.wd,.int .i64 g.id,.int .i64 g.ix,.slice bp g.kids.length bc] 26)) 26 [Value.string g.nm,.bool true,.int .i64 g.k,.int .i64 g.wd,.int .i64 g.id,.int .i64 g.ix,.slice bp g.kids.length bc]
     rwa [World.size_alloc] at this
    have hBY:Below W2.heap.size W2 Y:=by rw[hY];exact((Below.refl _ W2).alloc (Nat.le_refl _) _).alloc (by simp) _
    have hBYw:Below w.heap.size w Y:=HB2.o.trans (hBY.mono HB2.o.size);rw[<-hY];clear hY r0 r1 r2 r3 r4 r5 r6 q0 q1 q2 q3 q4 q5 q6 y0 y1 y2 y3 y4 y5 y6;refine(zaL (f:=g.named g.nm true) (p:=bp) (cap:=bc) ((HFD.o.at.below hBY).named hgnm true) (HS.o.below hBYw)).mono ?_;rintro e W3 ⟨rfl,hb3⟩;have HB3:=zh (hBYw.trans (hb3.mono hBYw.size));have hBW3:Below W2.heap.size W2 W3:=hBY.trans (hb3.mono hBY.size);have D2:=zh (C2.o.below hBW3 C2.o.lt);have OY:=zh (oY.below hb3 oY.lt);have HBW3:=zh hBW3;clear hBY hBYw hb3 oY hBW3;have hl3:=D2.o.lt;have hl4:=OY.o.lt;obtain⟨r0,r1,r2,r3,r4,r5,r6⟩:=rr7 OY.o.row;obtain⟨q0,q1,q2,q3,q4,q5,q6⟩:=rr7 D2.o.row;obtain⟨y0,y1,y2,y3,y4,y5,y6⟩:=ff7 D2.o;rw[HM2.o];go_wp2_with fail;rw[HE.o];exact zaX (fn:=Tryz.f7) (g:=g.named g.nm true) (rb:=w.heap.size+1) (p:=bp) (cap:=bc) rfl (za0 (l:=[_,_,_,_,_,_,_]) rfl D2.o _ _ _ _ _ _ _) (zaI HB3.o (by omega) _ _ _ _ _ _ _) (((((HFD.o.below HBW3.o).named hgnm true).put7 (fun b hb=>by have hb':W1.heap.size<=b:=hb;omega) _ _ _ _ _ _ _)).at) rfl rfl
  | false=>
   have e:res=(noF,5):=by rw[HR.o,HGN.o,if_neg (by rw[hm2];decide)]
   have HM2:=zh hm2;clear hm2;rcases hor with rfl|rfl|rfl|rfl
   ·have HE:=zh e;clear e HR;go_wp2_with fail;obtain⟨Y,hY⟩:=Fld.nm ((W2.alloc (.cells #[.string g.nm,.bool g.nl,.int .i64 g.k,.int .i64 g.wd,.int .i64 g.id,.int .i64 g.ix,.slice bp g.kids.length bc] 26)).alloc (.cells #[.string g.nm,.bool true,.int .i64 g.k,.int .i64 g.wd,.int .i64 g.id,.int .i64 g.ix,.slice bp g.kids.length bc] 26));have oY:BoxN Y (W2.heap.size+1) 26 [Value.string g.nm,.bool true,.int .i64 g.k,.int .i64 g.wd,.int .i64 g.id,.int .i64 g.ix,.slice bp g.kids.length bc]:=by
     rw[hY];have:=BoxN.new (W2.alloc (.cells #[.string g.nm,.bool g.nl,.int .i64 g.k,.int .i64 g.wd,.int .i64 g.id,.int .i64 g.ix,.slice bp g.kids.length bc] 26)) 26 [Value.string g.nm,.bool true,.int .i64 g.k,.int .i64 g.wd,.int .i64 g.id,.int .i64 g.ix,.slice bp g.kids.length bc]
     rwa [World.size_alloc] at this
    have hBY:Below W2.heap.size W2 Y:=by rw[hY];exact((Below.refl _ W2).alloc (Nat.le_refl _) _).alloc (by simp) _
    have hBYw:Below w.heap.size w Y:=HB2.o.trans (hBY.mono HB2.o.size);rw[<-hY];clear hY r0 r1 r2 r3 r4 r5 r6 q0 q1 q2 q3 q4 q5 q6 y0 y1 y2 y3 y4 y5 y6;refine(zaL (f:=g.named g.nm true) (p:=bp) (cap:=bc) ((HFD.o.at.below hBY).named hgnm true) (HS.o.below hBYw)).mono ?_;rintro e W3 ⟨rfl,hb3⟩;have HB3:=zh (hBYw.trans (hb3.mono hBYw.size));have hBW3:Below W2.heap.size W2 W3:=hBY.trans (hb3.mono hBY.size);have D2:=zh (C2.o.below hBW3 C2.o.lt);have OY:=zh (oY.below hb3 oY.lt);have HBW3:=zh hBW3;clear hBY hBYw hb3 oY hBW3;have hl3:=D2.o.lt;have hl4:=OY.o.lt;obtain⟨r0,r1,r2,r3,r4,r5,r6⟩:=rr7 OY.o.row;obtain⟨q0,q1,q2,q3,q4,q5,q6⟩:=rr7 D2.o.row;obtain⟨y0,y1,y2,y3,y4,y5,y6⟩:=ff7 D2.o;rw[HM2.o];go_wp2_with fail;rw[HE.o];exact zaX (fn:=Tryz.f7) (g:=noF) (rb:=w.heap.size+1) (p:=none) (cap:=0) rfl (za0 (l:=[_,_,_,_,_,_,_]) rfl D2.o _ _ _ _ _ _ _) (zaI HB3.o (by omega) _ _ _ _ _ _ _) ((zbv (S:=fun _=>True) (nm:=⟨#[]⟩) (by decide) false (by unfold zah;omega)).at) rfl rfl
   ·have HE:=zh e;clear e HR;go_wp2_with fail;obtain⟨Y,hY⟩:=Fld.nm ((W2.alloc (.cells #[.string g.nm,.bool g.nl,.int .i64 g.k,.int .i64 g.wd,.int .i64 g.id,.int .i64 g.ix,.slice bp g.kids.length bc] 26)).alloc (.cells #[.string g.nm,.bool true,.int .i64 g.k,.int .i64 g.wd,.int .i64 g.id,.int .i64 g.ix,.slice bp g.kids.length bc] 26));have oY:BoxN Y (W2.heap.size+1) 26 [Value.string g.nm,.bool true,.int .i64 g.k,.int .i64 g.wd,.int .i64 g.id,.int .i64 g.ix,.slice bp g.kids.length bc]:=by
     rw[hY];have:=BoxN.new (W2.alloc (.cells #[.string g.nm,.bool g.nl,.int .i64 g.k,.int .i64 g.wd,.int .i64 g.id,.int .i64 g.ix,.slice bp g.kids.length bc] 26)) 26 [Value.string g.nm,.bool true,.int .i64 g.k,.int .i64 g.wd,.int .i64 g.id,.int .i64 g.ix,.slice bp g.kids.length bc]
     rwa [World.size_alloc] at this
    have hBY:Below W2.heap.size W2 Y:=by rw[hY];exact((Below.refl _ W2).alloc (Nat.le_refl _) _).alloc (by simp) _
    have hBYw:Below w.heap.size w Y:=HB2.o.trans (hBY.mono HB2.o.size);rw[<-hY];clear hY r0 r1 r2 r3 r4 r5 r6 q0 q1 q2 q3 q4 q5 q6 y0 y1 y2 y3 y4 y5 y6;refine(zaL (f:=g.named g.nm true) (p:=bp) (cap:=bc) ((HFD.o.at.below hBY).named hgnm true) (HS.o.below hBYw)).mono ?_;rintro e W3 ⟨rfl,hb3⟩;have HB3:=zh (hBYw.trans (hb3.mono hBYw.size));have hBW3:Below W2.heap.size W2 W3:=hBY.trans (hb3.mono hBY.size);have D2:=zh (C2.o.below hBW3 C2.o.lt);have OY:=zh (oY.below hb3 oY.lt);have HBW3:=zh hBW3;clear hBY hBYw hb3 oY hBW3;have hl3:=D2.o.lt;have hl4:=OY.o.lt;obtain⟨r0,r1,r2,r3,r4,r5,r6⟩:=rr7 OY.o.row;obtain⟨q0,q1,q2,q3,q4,q5,q6⟩:=rr7 D2.o.row;obtain⟨y0,y1,y2,y3,y4,y5,y6⟩:=ff7 D2.o;rw[HM2.o];go_wp2_with fail;rw[HE.o];exact zaX (fn:=Tryz.f7) (g:=noF) (rb:=w.heap.size+1) (p:=none) (cap:=0) rfl (za0 (l:=[_,_,_,_,_,_,_]) rfl D2.o _ _ _ _ _ _ _) (zaI HB3.o (by omega) _ _ _ _ _ _ _) ((zbv (S:=fun _=>True) (nm:=⟨#[]⟩) (by decide) false (by unfold zah;omega)).at) rfl rfl
   ·have HE:=zh e;clear e HR;go_wp2_with fail;obtain⟨Y,hY⟩:=Fld.nm ((W2.alloc (.cells #[.string g.nm,.bool g.nl,.int .i64 g.k,.int .i64 g.wd,.int .i64 g.id,.int .i64 g.ix,.slice bp g.kids.length bc] 26)).alloc (.cells #[.string g.nm,.bool true,.int .i64 g.k,.int .i64 g.wd,.int .i64 g.id,.int .i64 g.ix,.slice bp g.kids.length bc] 26));have oY:BoxN Y (W2.heap.size+1) 26 [Value.string g.nm,.bool true,.int .i64 g.k,.int .i64 g.wd,.int .i64 g.id,.int .i64 g.ix,.slice bp g.kids.length bc]:=by
     rw[hY];have:=BoxN.new (W2.alloc (.cells #[.string g.nm,.bool g.nl,.int .i64 g.k,.int .i64 g.wd,.int .i64 g.id,.int .i64 g.ix,.slice bp g.kids.length bc] 26)) 26 [Value.string g.nm,.bool true,.int .i64 g.k,.int .i64 g.wd,.int .i64 g.id,.int .i64 g.ix,.slice bp g.kids.length bc]
     rwa [World.size_alloc] at this
    have hBY:Below W2.heap.size W2 Y:=by rw[hY];exact((Below.refl _ W2).alloc (Nat.le_refl _) _).alloc (by simp) _
    have hBYw:Below w.heap.size w Y:=HB2.o.trans (hBY.mono HB2.o.size);rw[<-hY];clear hY r0 r1 r2 r3 r4 r5 r6 q0 q1 q2 q3 q4 q5 q6 y0 y1 y2 y3 y4 y5 y6;refine(zaL (f:=g.named g.nm true) (p:=bp) (cap:=bc) ((HFD.o.at.below hBY).named hgnm true) (HS.o.below hBYw)).mono ?_;rintro e W3 ⟨rfl,hb3⟩;have HB3:=zh (hBYw.trans (hb3.mono hBYw.size));have hBW3:Below W2.heap.size W2 W3:=hBY.trans (hb3.mono hBY.size);have D2:=zh (C2.o.below hBW3 C2.o.lt);have OY:=zh (oY.below hb3 oY.lt);have HBW3:=zh hBW3;clear hBY hBYw hb3 oY hBW3;have hl3:=D2.o.lt;have hl4:=OY.o.lt;obtain⟨r0,r1,r2,r3,r4,r5,r6⟩:=rr7 OY.o.row;obtain⟨q0,q1,q2,q3,q4,q5,q6⟩:=rr7 D2.o.row;obtain⟨y0,y1,y2,y3,y4,y5,y6⟩:=ff7 D2.o;rw[HM2.o];go_wp2_with fail;rw[HE.o];exact zaX (fn:=Tryz.f7) (g:=noF) (rb:=w.heap.size+1) (p:=none) (cap:=0) rfl (za0 (l:=[_,_,_,_,_,_,_]) rfl D2.o _ _ _ _ _ _ _) (zaI HB3.o (by omega) _ _ _ _ _ _ _) ((zbv (S:=fun _=>True) (nm:=⟨#[]⟩) (by decide) false (by unfold zah;omega)).at) rfl rfl
   ·have HE:=zh e;clear e HR;go_wp2_with fail;obtain⟨Y,hY⟩:=Fld.nm ((W2.alloc (.cells #[.string g.nm,.bool g.nl,.int .i64 g.k,.int .i64 g.wd,.int .i64 g.id,.int .i64 g.ix,.slice bp g.kids.length bc] 26)).alloc (.cells #[.string g.nm,.bool true,.int .i64 g.k,.int .i64 g.wd,.int .i64 g.id,.int .i64 g.ix,.slice bp g.kids.length bc] 26));have oY:BoxN Y (W2.heap.size+1) 26 [Value.string g.nm,.bool true,.int .i64 g.k,.int .i64 g.wd,.int .i64 g.id,.int .i64 g.ix,.slice bp g.kids.length bc]:=by
     rw[hY];have:=BoxN.new (W2.alloc (.cells #[.string g.nm,.bool g.nl,.int .i64 g.k,.int .i64 g.wd,.int .i64 g.id,.int .i64 g.ix,.slice bp g.kids.length bc] 26)) 26 [Value.string g.nm,.bool true,.int .i64 g.k,.int .i64 g.wd,.int .i64 g.id,.int .i64 g.ix,.slice bp g.kids.length bc]
     rwa [World.size_alloc] at this
    have hBY:Below W2.heap.size W2 Y:=by rw[hY];exact((Below.refl _ W2).alloc (Nat.le_refl _) _).alloc (by simp) _
    have hBYw:Below w.heap.size w Y:=HB2.o.trans (hBY.mono HB2.o.size);rw[<-hY];clear hY r0 r1 r2 r3 r4 r5 r6 q0 q1 q2 q3 q4 q5 q6 y0 y1 y2 y3 y4 y5 y6;refine(zaL (f:=g.named g.nm true) (p:=bp) (cap:=bc) ((HFD.o.at.below hBY).named hgnm true) (HS.o.below hBYw)).mono ?_;rintro e W3 ⟨rfl,hb3⟩;have HB3:=zh (hBYw.trans (hb3.mono hBYw.size));have hBW3:Below W2.heap.size W2 W3:=hBY.trans (hb3.mono hBY.size);have D2:=zh (C2.o.below hBW3 C2.o.lt);have OY:=zh (oY.below hb3 oY.lt);have HBW3:=zh hBW3;clear hBY hBYw hb3 oY hBW3;have hl3:=D2.o.lt;have hl4:=OY.o.lt;obtain⟨r0,r1,r2,r3,r4,r5,r6⟩:=rr7 OY.o.row;obtain⟨q0,q1,q2,q3,q4,q5,q6⟩:=rr7 D2.o.row;obtain⟨y0,y1,y2,y3,y4,y5,y6⟩:=ff7 D2.o;rw[HM2.o];go_wp2_with fail;rw[HE.o];exact zaX (fn:=Tryz.f7) (g:=noF) (rb:=w.heap.size+1) (p:=none) (cap:=0) rfl (za0 (l:=[_,_,_,_,_,_,_]) rfl D2.o _ _ _ _ _ _ _) (zaI HB3.o (by omega) _ _ _ _ _ _ _) ((zbv (S:=fun _=>True) (nm:=⟨#[]⟩) (by decide) false (by unfold zah;omega)).at) rfl rfl
 replace HR:=zh (show _ from by have:=HR.o;rw[if_neg o4] at this;exact this);by_cases o8:op=8\/op=9
 ·replace HR:=zh (show _ from by have:=HR.o;rw[if_pos o8] at this;exact this);clear o4 o3 hop n1 n2 n3;by_cases k2:g.k=2
  ·have e:res=(zaD f.nm true 2,0):=by rw[HR.o,if_pos k2]
   have k22:(g.k == 2)=true:=by rw[k2];rfl
   clear k2;rcases o8 with rfl|rfl
   ·have HE:=zh e;clear e HR;go_wp2_with fail;obtain⟨Y,hY⟩:=Fld.nm ((W2.alloc (.cells #[.string g.nm,.bool g.nl,.int .i64 g.k,.int .i64 g.wd,.int .i64 g.id,.int .i64 g.ix,.slice bp g.kids.length bc] 26)).alloc (.cells #[.string f.nm,.bool true,.int .i64 2,.int .i64 0,.int .i64 0,.int .i64 0,.slice none 0 0] 26));have oY:BoxN Y (W2.heap.size+1) 26 [Value.string f.nm,.bool true,.int .i64 2,.int .i64 0,.int .i64 0,.int .i64 0,.slice none 0 0]:=by
     rw[hY];have:=BoxN.new (W2.alloc (.cells #[.string g.nm,.bool g.nl,.int .i64 g.k,.int .i64 g.wd,.int .i64 g.id,.int .i64 g.ix,.slice bp g.kids.length bc] 26)) 26 [Value.string f.nm,.bool true,.int .i64 2,.int .i64 0,.int .i64 0,.int .i64 0,.slice none 0 0]
     rwa [World.size_alloc] at this
    have hBY:Below W2.heap.size W2 Y:=by rw[hY];exact((Below.refl _ W2).alloc (Nat.le_refl _) _).alloc (by simp) _
    have hBYw:Below w.heap.size w Y:=HB2.o.trans (hBY.mono HB2.o.size);rw[<-hY];clear hY r0 r1 r2 r3 r4 r5 r6 q0 q1 q2 q3 q4 q5 q6 y0 y1 y2 y3 y4 y5 y6;refine(zaL (f:=zaD f.nm true 2) (p:=none) (cap:=0) ((zbv (S:=fun _=>True) hnm true (by unfold zah;omega)).at) (HS.o.below hBYw)).mono ?_;rintro e W3 ⟨rfl,hb3⟩;have HB3:=zh (hBYw.trans (hb3.mono hBYw.size));have hBW3:Below W2.heap.size W2 W3:=hBY.trans (hb3.mono hBY.size);have D2:=zh (C2.o.below hBW3 C2.o.lt);have OY:=zh (oY.below hb3 oY.lt);have HBW3:=zh hBW3;clear hBY hBYw hb3 oY hBW3;have hl3:=D2.o.lt;have hl4:=OY.o.lt;obtain⟨r0,r1,r2,r3,r4,r5,r6⟩:=rr7 OY.o.row;obtain⟨q0,q1,q2,q3,q4,q5,q6⟩:=rr7 D2.o.row;obtain⟨y0,y1,y2,y3,y4,y5,y6⟩:=ff7 D2.o;rw[zcA HNN.o true (by decide) (by decide)];go_wp2_with fail;rw[HE.o];exact zaX (fn:=Tryz.f7) (g:=zaD f.nm true 2) (rb:=w.heap.size+1) (p:=none) (cap:=0) rfl (za0 (l:=[_,_,_,_,_,_,_]) rfl D2.o _ _ _ _ _ _ _) (zaI HB3.o (by omega) _ _ _ _ _ _ _) ((zbv (S:=fun _=>True) hnm true (by unfold zah;omega)).at) rfl rfl
   ·have HE:=zh e;clear e HR;go_wp2_with fail;obtain⟨Y,hY⟩:=Fld.nm ((W2.alloc (.cells #[.string g.nm,.bool g.nl,.int .i64 g.k,.int .i64 g.wd,.int .i64 g.id,.int .i64 g.ix,.slice bp g.kids.length bc] 26)).alloc (.cells #[.string f.nm,.bool true,.int .i64 2,.int .i64 0,.int .i64 0,.int .i64 0,.slice none 0 0] 26));have oY:BoxN Y (W2.heap.size+1) 26 [Value.string f.nm,.bool true,.int .i64 2,.int .i64 0,.int .i64 0,.int .i64 0,.slice none 0 0]:=by
     rw[hY];have:=BoxN.new (W2.alloc (.cells #[.string g.nm,.bool g.nl,.int .i64 g.k,.int .i64 g.wd,.int .i64 g.id,.int .i64 g.ix,.slice bp g.kids.length bc] 26)) 26 [Value.string f.nm,.bool true,.int .i64 2,.int .i64 0,.int .i64 0,.int .i64 0,.slice none 0 0]
     rwa [World.size_alloc] at this
    have hBY:Below W2.heap.size W2 Y:=by rw[hY];exact((Below.refl _ W2).alloc (Nat.le_refl _) _).alloc (by simp) _
    have hBYw:Below w.heap.size w Y:=HB2.o.trans (hBY.mono HB2.o.size);rw[<-hY];clear hY r0 r1 r2 r3 r4 r5 r6 q0 q1 q2 q3 q4 q5 q6 y0 y1 y2 y3 y4 y5 y6;refine(zaL (f:=zaD f.nm true 2) (p:=none) (cap:=0) ((zbv (S:=fun _=>True) hnm true (by unfold zah;omega)).at) (HS.o.below hBYw)).mono ?_;rintro e W3 ⟨rfl,hb3⟩;have HB3:=zh (hBYw.trans (hb3.mono hBYw.size));have hBW3:Below W2.heap.size W2 W3:=hBY.trans (hb3.mono hBY.size);have D2:=zh (C2.o.below hBW3 C2.o.lt);have OY:=zh (oY.below hb3 oY.lt);have HBW3:=zh hBW3;clear hBY hBYw hb3 oY hBW3;have hl3:=D2.o.lt;have hl4:=OY.o.lt;obtain⟨r0,r1,r2,r3,r4,r5,r6⟩:=rr7 OY.o.row;obtain⟨q0,q1,q2,q3,q4,q5,q6⟩:=rr7 D2.o.row;obtain⟨y0,y1,y2,y3,y4,y5,y6⟩:=ff7 D2.o;rw[zcA HNN.o true (by decide) (by decide)];go_wp2_with fail;rw[HE.o];exact zaX (fn:=Tryz.f7) (g:=zaD f.nm true 2) (rb:=w.heap.size+1) (p:=none) (cap:=0) rfl (za0 (l:=[_,_,_,_,_,_,_]) rfl D2.o _ _ _ _ _ _ _) (zaI HB3.o (by omega) _ _ _ _ _ _ _) ((zbv (S:=fun _=>True) hnm true (by unfold zah;omega)).at) rfl rfl
  ·have e:res=(noF,5):=by rw[HR.o,if_neg k2]
   have k22:(g.k == 2)=false:=by rw[beq_eq_false_iff_ne];exact k2
   clear k2;rcases o8 with rfl|rfl
   ·have HE:=zh e;clear e HR;go_wp2_with fail;obtain⟨Y,hY⟩:=Fld.nm ((W2.alloc (.cells #[.string g.nm,.bool g.nl,.int .i64 g.k,.int .i64 g.wd,.int .i64 g.id,.int .i64 g.ix,.slice bp g.kids.length bc] 26)).alloc (.cells #[.string f.nm,.bool true,.int .i64 0,.int .i64 0,.int .i64 0,.int .i64 0,.slice none 0 0] 26));have oY:BoxN Y (W2.heap.size+1) 26 [Value.string f.nm,.bool true,.int .i64 0,.int .i64 0,.int .i64 0,.int .i64 0,.slice none 0 0]:=by
     rw[hY];have:=BoxN.new (W2.alloc (.cells #[.string g.nm,.bool g.nl,.int .i64 g.k,.int .i64 g.wd,.int .i64 g.id,.int .i64 g.ix,.slice bp g.kids.length bc] 26)) 26 [Value.string f.nm,.bool true,.int .i64 0,.int .i64 0,.int .i64 0,.int .i64 0,.slice none 0 0]
     rwa [World.size_alloc] at this
    have hBY:Below W2.heap.size W2 Y:=by rw[hY];exact((Below.refl _ W2).alloc (Nat.le_refl _) _).alloc (by simp) _
    have hBYw:Below w.heap.size w Y:=HB2.o.trans (hBY.mono HB2.o.size);rw[<-hY];clear hY r0 r1 r2 r3 r4 r5 r6 q0 q1 q2 q3 q4 q5 q6 y0 y1 y2 y3 y4 y5 y6;refine(zaL (f:=zaD f.nm true 0) (p:=none) (cap:=0) ((zbv (S:=fun _=>True) hnm true (by unfold zah;omega)).at) (HS.o.below hBYw)).mono ?_;rintro e W3 ⟨rfl,hb3⟩;have HB3:=zh (hBYw.trans (hb3.mono hBYw.size));have hBW3:Below W2.heap.size W2 W3:=hBY.trans (hb3.mono hBY.size);have D2:=zh (C2.o.below hBW3 C2.o.lt);have OY:=zh (oY.below hb3 oY.lt);have HBW3:=zh hBW3;clear hBY hBYw hb3 oY hBW3;have hl3:=D2.o.lt;have hl4:=OY.o.lt;obtain⟨r0,r1,r2,r3,r4,r5,r6⟩:=rr7 OY.o.row;obtain⟨q0,q1,q2,q3,q4,q5,q6⟩:=rr7 D2.o.row;obtain⟨y0,y1,y2,y3,y4,y5,y6⟩:=ff7 D2.o;rw[zgK HNN.o true];go_wp2_with fail;rw[HE.o];exact zaX (fn:=Tryz.f7) (g:=noF) (rb:=w.heap.size+1) (p:=none) (cap:=0) rfl (za0 (l:=[_,_,_,_,_,_,_]) rfl D2.o _ _ _ _ _ _ _) (zaI HB3.o (by omega) _ _ _ _ _ _ _) ((zbv (S:=fun _=>True) (nm:=⟨#[]⟩) (by decide) false (by unfold zah;omega)).at) rfl rfl
   ·have HE:=zh e;clear e HR;go_wp2_with fail;obtain⟨Y,hY⟩:=Fld.nm ((W2.alloc (.cells #[.string g.nm,.bool g.nl,.int .i64 g.k,.int .i64 g.wd,.int .i64 g.id,.int .i64 g.ix,.slice bp g.kids.length bc] 26)).alloc (.cells #[.string f.nm,.bool true,.int .i64 0,.int .i64 0,.int .i64 0,.int .i64 0,.slice none 0 0] 26));have oY:BoxN Y (W2.heap.size+1) 26 [Value.string f.nm,.bool true,.int .i64 0,.int .i64 0,.int .i64 0,.int .i64 0,.slice none 0 0]:=by
     rw[hY];have:=BoxN.new (W2.alloc (.cells #[.string g.nm,.bool g.nl,.int .i64 g.k,.int .i64 g.wd,.int .i64 g.id,.int .i64 g.ix,.slice bp g.kids.length bc] 26)) 26 [Value.string f.nm,.bool true,.int .i64 0,.int .i64 0,.int .i64 0,.int .i64 0,.slice none 0 0]
     rwa [World.size_alloc] at this
    have hBY:Below W2.heap.size W2 Y:=by rw[hY];exact((Below.refl _ W2).alloc (Nat.le_refl _) _).alloc (by simp) _
    have hBYw:Below w.heap.size w Y:=HB2.o.trans (hBY.mono HB2.o.size);rw[<-hY];clear hY r0 r1 r2 r3 r4 r5 r6 q0 q1 q2 q3 q4 q5 q6 y0 y1 y2 y3 y4 y5 y6;refine(zaL (f:=zaD f.nm true 0) (p:=none) (cap:=0) ((zbv (S:=fun _=>True) hnm true (by unfold zah;omega)).at) (HS.o.below hBYw)).mono ?_;rintro e W3 ⟨rfl,hb3⟩;have HB3:=zh (hBYw.trans (hb3.mono hBYw.size));have hBW3:Below W2.heap.size W2 W3:=hBY.trans (hb3.mono hBY.size);have D2:=zh (C2.o.below hBW3 C2.o.lt);have OY:=zh (oY.below hb3 oY.lt);have HBW3:=zh hBW3;clear hBY hBYw hb3 oY hBW3;have hl3:=D2.o.lt;have hl4:=OY.o.lt;obtain⟨r0,r1,r2,r3,r4,r5,r6⟩:=rr7 OY.o.row;obtain⟨q0,q1,q2,q3,q4,q5,q6⟩:=rr7 D2.o.row;obtain⟨y0,y1,y2,y3,y4,y5,y6⟩:=ff7 D2.o;rw[zgK HNN.o true];go_wp2_with fail;rw[HE.o];exact zaX (fn:=Tryz.f7) (g:=noF) (rb:=w.heap.size+1) (p:=none) (cap:=0) rfl (za0 (l:=[_,_,_,_,_,_,_]) rfl D2.o _ _ _ _ _ _ _) (zaI HB3.o (by omega) _ _ _ _ _ _ _) ((zbv (S:=fun _=>True) (nm:=⟨#[]⟩) (by decide) false (by unfold zah;omega)).at) rfl rfl
 have e:res=(noF,1):=by rw[HR.o,if_neg o8]
 have HE:=zh e;have n4:(op == 4)=false:=by rw[beq_eq_false_iff_ne];omega
 have n5:(op == 5)=false:=by rw[beq_eq_false_iff_ne];omega
 have n6:(op == 6)=false:=by rw[beq_eq_false_iff_ne];omega
 have n7:(op == 7)=false:=by rw[beq_eq_false_iff_ne];omega
 have n8:(op == 8)=false:=by rw[beq_eq_false_iff_ne];omega
 have n9:(op == 9)=false:=by rw[beq_eq_false_iff_ne];omega
 clear e HR o3 o4 o8;go_wp2_with fail;rw[HE.o];exact zaX (fn:=Tryz.f7) (g:=noF) (rb:=w.heap.size+1) (p:=none) (cap:=0) rfl (((za0 (l:=[_,_,_,_,_,_,_]) rfl C2.o _ _ _ _ _ _ _).alloc _).alloc _) (((zaI HB2.o (by omega) _ _ _ _ _ _ _).alloc (by have:=HB2.o.size;simp[put7];omega) _).alloc (by have:=HB2.o.size;simp[put7];omega) _) (zbv (S:=fun _=>True) (nm:=⟨#[]⟩) (by decide) false (by unfold zah;omega)).at rfl rfl
end Go.Fld
namespace Go.Fld
open Go Go.RowKit Go.Proofs Go.ChangeShapes Go.WideShapes Go.ChangeAt Go.Shelf Go.Fld.Late
mutual
theorem FdS.toM {S:Nat->Prop}{w:World}:∀ {f:Fd} {cs:List Value},FdS S w f cs->M.AtL S w (fdR f) cs
 | .mk nm nl k wd id ix kids,cs,h=>by
  simp only[FdS] at h;obtain⟨h0,h1,h2,h3,h4,p,cap,h5,h6,h7,h8⟩:=h;have hl:(fdL kids).length=kids.length:=by rw[zha,List.length_map]
  rw[h5,fdR];refine M.AtL.cons M.At.one (M.AtL.cons M.At.one (M.AtL.cons M.At.one (M.AtL.cons M.At.one (M.AtL.cons M.At.one (M.AtL.cons M.At.one (M.AtL.cons ?_ M.AtL.nil))))));rw[<-hl];exact M.At.of (by rw[hl];exact⟨h6,h7⟩) (FdsS.toM h8)
theorem FdsS.toM {S:Nat->Prop}{w:World}{p:Option Addr}:∀ {l:List Fd} {off:Nat},FdsS S w p off l->M.RowsAt S w p 7 off (fdL l)
 | [],off,h=>by rw[fdL];simp only[M.RowsAt]
 | f :: r,off,h=>by
  simp only[FdsS] at h;obtain⟨⟨b,o,cs,h1,hS,h2,h3⟩,h4⟩:=h;obtain⟨_,_,hcs,_⟩:=h3.shape;rw[fdL];simp only[M.RowsAt];exact⟨⟨b,o,cs,h1,hS,⟨by rw[hcs];rfl,by decide⟩,h2,FdS.toM h3⟩,FdsS.toM h4⟩
end
def ziJ (m b zb:Nat)(k:Nat):Prop:=zas b zb k\/k<m
def zdM (m:Nat)(w:World)(s:Agg)(e:Ending)(w':World):Prop:=Below w.heap.size w w'/\∃b zb,e=.returned (.iface (zbe s) (.pointer (some ⟨b,0,none⟩)))/\w.heap.size<=b/\w.heap.size<=zb/\AggAt (ziJ m b zb) w' b zb s
theorem zdr {m b zb n:Nat}(h0:m<=n)(h1:b<n)(h2:zb<n):∀k,ziJ m b zb k->k<n:=fun k hk=>by rcases hk with(e|e)|e <;> omega
theorem zlL {S:Nat->Prop}{w:World}{zb:Nat}(h:BoxN w zb 93 [.bool false,.slice none 0 0]):IntAt S w zb 0:=⟨[],none,0,h,M.At.nil S w 1,⟨by first|trivial|(intro x hx;cases hx),by simp⟩,rfl⟩
theorem znO {m:Nat}(op k:Int)(hk:zah k)(h1:1<=op)(h9:op<=9){g:Fd}{p:Option Addr}{cap:Nat}{w:World}(hm:m<=w.heap.size)(hg:M.AtL (fun k=>m<=k) w (fdR g) (Fld.f7 g p cap)) :
  Calls Tryz.prog 23 #[.int .i64 op,.agg #[.string g.nm,.bool g.nl,.int .i64 g.k,.int .i64 g.wd,.int .i64 g.id,.int .i64 g.ix,.slice p g.kids.length cap],.int .i64 k] w (zdM m w (zcr op g k)):=by
 unfold zah at hk;have HG:=zh hg;have HM:=zh hm;have hor:op=1\/op=2\/op=3\/op=4\/op=5\/op=6\/op=7\/op=8\/op=9:=by omega
 obtain⟨S,hS⟩:=Fld.nm (zcr op g k);rw[<-hS];have HS:=zh hS;clear h1 h9 hg hm hS;rcases hor with rfl|rfl|rfl|rfl|rfl|rfl|rfl|rfl|rfl
 ·have HE:=zh (show S=.number 0 0 false by rw[HS.o];rfl);obtain⟨W2,hW2,-,a2,hB2⟩:=zbt w 26 (Fld.f7 g p cap) 88 [.int .i64 0,.int .i64 0,.bool false];have HW2:=zh hW2;have HB2:=zh hB2;have HF:Hid (zdM m w (.number 0 0 false) (.returned (.iface (zbe (.number 0 0 false)) (.pointer (some ⟨w.heap.size+1,0,none⟩)))) W2):=zh (by
   refine⟨hB2,w.heap.size+1,w.heap.size+1,rfl,by omega,by omega,⟨.inl (.inl rfl),.inl (.inl rfl)⟩,zdr (Nat.le_trans HM.o hB2.size) a2.lt a2.lt,88,_,a2,rfl,rfl⟩)
  clear hW2 a2 hB2
  go_in
  go_wp2_with fail;rw[<-HW2.o];go_ret;rw[HE.o];exact HF.o
 ·have HE:=zh (show S=.number 0 0 true by rw[HS.o];rfl);obtain⟨W2,hW2,-,a2,hB2⟩:=zbt w 26 (Fld.f7 g p cap) 88 [.int .i64 0,.int .i64 0,.bool true];have HW2:=zh hW2;have HB2:=zh hB2;have HF:Hid (zdM m w (.number 0 0 true) (.returned (.iface (zbe (.number 0 0 true)) (.pointer (some ⟨w.heap.size+1,0,none⟩)))) W2):=zh (by
   refine⟨hB2,w.heap.size+1,w.heap.size+1,rfl,by omega,by omega,⟨.inl (.inl rfl),.inl (.inl rfl)⟩,zdr (Nat.le_trans HM.o hB2.size) a2.lt a2.lt,88,_,a2,rfl,rfl⟩)
  clear hW2 a2 hB2
  go_in
  go_wp2_with fail;rw[<-HW2.o];go_ret;rw[HE.o];exact HF.o
 ·by_cases h11:k=11
  ·have k1:(k == 11)=true:=by simp[h11]
   have HE:=zh (show S=.floats 0 0 0 false false false false by rw[HS.o];unfold zcr;rw[if_neg (by omega),if_pos rfl,if_pos h11]);obtain⟨W3,hW3,-,a2,a3,hB3⟩:=zbG w 26 (Fld.f7 g p cap) 93 [.bool false,.slice none 0 0] 95 [.int .i64 0,.int .i64 0,.pointer (some ⟨w.heap.size+1,0,none⟩),.bool false,.bool false,.bool false,.bool false];have HW3:=zh hW3;have HF:Hid (zdM m w (.floats 0 0 0 false false false false) (.returned (.iface 89 (.pointer (some ⟨w.heap.size+1+1,0,none⟩)))) W3):=zh (by
    refine⟨hB3,w.heap.size+1+1,w.heap.size+1,rfl,by omega,by omega,⟨.inl (.inl rfl),.inl (.inr rfl)⟩,zdr (Nat.le_trans HM.o hB3.size) a3.lt a2.lt,95,_,a3,rfl,rfl,zlL a2,by omega⟩)
   clear hW3 a2 a3 hB3 h11
   go_in
   go_wp2_with fail;rw[<-HW3.o];go_ret;rw[HE.o];exact HF.o
  ·have k1:(k == 11)=false:=by simp[h11]
   have HE:=zh (show S=.wholes 0 0 g.k 0 by rw[HS.o];unfold zcr;rw[if_neg (by omega),if_pos rfl,if_neg h11]);obtain⟨W3,hW3,-,a2,a3,hB3⟩:=zbG w 26 (Fld.f7 g p cap) 93 [.bool false,.slice none 0 0] 98 [.int .i64 0,.int .i64 0,.string g.nm,.bool g.nl,.int .i64 g.k,.int .i64 g.wd,.int .i64 g.id,.int .i64 g.ix,.slice p g.kids.length cap,.pointer (some ⟨w.heap.size+1,0,none⟩)];have HW3:=zh hW3;have HF:Hid (zdM m w (.wholes 0 0 g.k 0) (.returned (.iface 96 (.pointer (some ⟨w.heap.size+1+1,0,none⟩)))) W3):=zh (by
    refine⟨hB3,w.heap.size+1+1,w.heap.size+1,rfl,by omega,by omega,⟨.inl (.inl rfl),.inl (.inr rfl)⟩,zdr (Nat.le_trans HM.o hB3.size) a3.lt a2.lt,98,_,a3,rfl,⟨_,_,_,_,_,_,_,_,rfl⟩,zlL a2,by omega⟩)
   clear hW3 a2 a3 hB3 h11
   go_in
   go_wp2_with fail;rw[<-HW3.o];go_ret;rw[HE.o];exact HF.o
 ·have HE:=zh (show S=.bound 0 0 g false zc3 by rw[HS.o];rfl);obtain⟨W2,hW2,-,a2,hB2⟩:=zbt w 26 (Fld.f7 g p cap) 101 [.int .i64 0,.int .i64 0,.string g.nm,.bool g.nl,.int .i64 g.k,.int .i64 g.wd,.int .i64 g.id,.int .i64 g.ix,.slice p g.kids.length cap,.bool false,.bool false,.int .i64 0,.string ⟨#[]⟩,.slice none 0 0];have HW2:=zh hW2;have HB2:=zh hB2;have HF:Hid (zdM m w (.bound 0 0 g false zc3) (.returned (.iface (zbe (.bound 0 0 g false zc3)) (.pointer (some ⟨w.heap.size+1,0,none⟩)))) W2):=zh (by
   refine⟨hB2,w.heap.size+1,w.heap.size+1,rfl,by omega,by omega,⟨.inl (.inl rfl),.inl (.inl rfl)⟩,zdr (Nat.le_trans HM.o hB2.size) a2.lt a2.lt,101,_,a2,rfl,(Fld.f7 g p cap),[.bool false,.int .i64 0,.string ⟨#[]⟩,.slice none 0 0],rfl,rfl,HG.o.keep (fun k hk hl=>⟨hB2.block k hl,fun h=>by rcases h with(e|e)|e <;> omega⟩),VAt.flat _ _ _⟩)
  clear hW2 a2 hB2
  go_in
  go_wp2_with fail;rw[<-HW2.o];go_ret;rw[HE.o];exact HF.o
 ·have HE:=zh (show S=.bound 0 0 g true zc3 by rw[HS.o];rfl);obtain⟨W2,hW2,-,a2,hB2⟩:=zbt w 26 (Fld.f7 g p cap) 101 [.int .i64 0,.int .i64 0,.string g.nm,.bool g.nl,.int .i64 g.k,.int .i64 g.wd,.int .i64 g.id,.int .i64 g.ix,.slice p g.kids.length cap,.bool true,.bool false,.int .i64 0,.string ⟨#[]⟩,.slice none 0 0];have HW2:=zh hW2;have HB2:=zh hB2;have HF:Hid (zdM m w (.bound 0 0 g true zc3) (.returned (.iface (zbe (.bound 0 0 g true zc3)) (.pointer (some ⟨w.heap.size+1,0,none⟩)))) W2):=zh (by
   refine⟨hB2,w.heap.size+1,w.heap.size+1,rfl,by omega,by omega,⟨.inl (.inl rfl),.inl (.inl rfl)⟩,zdr (Nat.le_trans HM.o hB2.size) a2.lt a2.lt,101,_,a2,rfl,(Fld.f7 g p cap),[.bool false,.int .i64 0,.string ⟨#[]⟩,.slice none 0 0],rfl,rfl,HG.o.keep (fun k hk hl=>⟨hB2.block k hl,fun h=>by rcases h with(e|e)|e <;> omega⟩),VAt.flat _ _ _⟩)
  clear hW2 a2 hB2
  go_in
  go_wp2_with fail;rw[<-HW2.o];go_ret;rw[HE.o];exact HF.o
 ·have HE:=zh (show S=.aend 0 0 false zc3 by rw[HS.o];rfl);obtain⟨W2,hW2,-,a2,hB2⟩:=zbt w 26 (Fld.f7 g p cap) 104 [.int .i64 0,.int .i64 0,.bool false,.bool false,.int .i64 0,.string ⟨#[]⟩,.slice none 0 0];have HW2:=zh hW2;have HB2:=zh hB2;have HF:Hid (zdM m w (.aend 0 0 false zc3) (.returned (.iface (zbe (.aend 0 0 false zc3)) (.pointer (some ⟨w.heap.size+1,0,none⟩)))) W2):=zh (by
   refine⟨hB2,w.heap.size+1,w.heap.size+1,rfl,by omega,by omega,⟨.inl (.inl rfl),.inl (.inl rfl)⟩,zdr (Nat.le_trans HM.o hB2.size) a2.lt a2.lt,104,_,a2,rfl,[.bool false,.int .i64 0,.string ⟨#[]⟩,.slice none 0 0],rfl,VAt.flat _ _ _⟩)
  clear hW2 a2 hB2
  go_in
  go_wp2_with fail;rw[<-HW2.o];go_ret;rw[HE.o];exact HF.o
 ·have HE:=zh (show S=.aend 0 0 true zc3 by rw[HS.o];rfl);obtain⟨W2,hW2,-,a2,hB2⟩:=zbt w 26 (Fld.f7 g p cap) 104 [.int .i64 0,.int .i64 0,.bool true,.bool false,.int .i64 0,.string ⟨#[]⟩,.slice none 0 0];have HW2:=zh hW2;have HB2:=zh hB2;have HF:Hid (zdM m w (.aend 0 0 true zc3) (.returned (.iface (zbe (.aend 0 0 true zc3)) (.pointer (some ⟨w.heap.size+1,0,none⟩)))) W2):=zh (by
   refine⟨hB2,w.heap.size+1,w.heap.size+1,rfl,by omega,by omega,⟨.inl (.inl rfl),.inl (.inl rfl)⟩,zdr (Nat.le_trans HM.o hB2.size) a2.lt a2.lt,104,_,a2,rfl,[.bool false,.int .i64 0,.string ⟨#[]⟩,.slice none 0 0],rfl,VAt.flat _ _ _⟩)
  clear hW2 a2 hB2
  go_in
  go_wp2_with fail;rw[<-HW2.o];go_ret;rw[HE.o];exact HF.o
 ·have HE:=zh (show S=.logic 0 0 false 0 by rw[HS.o];rfl);obtain⟨W2,hW2,-,a2,hB2⟩:=zbt w 26 (Fld.f7 g p cap) 107 [.int .i64 0,.int .i64 0,.bool false,.int .i64 0];have HW2:=zh hW2;have HB2:=zh hB2;have HF:Hid (zdM m w (.logic 0 0 false 0) (.returned (.iface (zbe (.logic 0 0 false 0)) (.pointer (some ⟨w.heap.size+1,0,none⟩)))) W2):=zh (by
   refine⟨hB2,w.heap.size+1,w.heap.size+1,rfl,by omega,by omega,⟨.inl (.inl rfl),.inl (.inl rfl)⟩,zdr (Nat.le_trans HM.o hB2.size) a2.lt a2.lt,107,_,a2,rfl,rfl⟩)
  clear hW2 a2 hB2
  go_in
  go_wp2_with fail;rw[<-HW2.o];go_ret;rw[HE.o];exact HF.o
 ·have HE:=zh (show S=.logic 0 0 true 0 by rw[HS.o];rfl);obtain⟨W2,hW2,-,a2,hB2⟩:=zbt w 26 (Fld.f7 g p cap) 107 [.int .i64 0,.int .i64 0,.bool true,.int .i64 0];have HW2:=zh hW2;have HB2:=zh hB2;have HF:Hid (zdM m w (.logic 0 0 true 0) (.returned (.iface (zbe (.logic 0 0 true 0)) (.pointer (some ⟨w.heap.size+1,0,none⟩)))) W2):=zh (by
   refine⟨hB2,w.heap.size+1,w.heap.size+1,rfl,by omega,by omega,⟨.inl (.inl rfl),.inl (.inl rfl)⟩,zdr (Nat.le_trans HM.o hB2.size) a2.lt a2.lt,107,_,a2,rfl,rfl⟩)
  clear hW2 a2 hB2
  go_in
  go_wp2_with fail;rw[<-HW2.o];go_ret;rw[HE.o];exact HF.o
theorem zlM {M:Nat}{op:Int}{g:Fd}{k:Int}(hok:FdOk g)(hd:zau g<=M):AggOk M (zcr op g k):=by
 have hz:VFew zc3:=.mk (by show(0:Nat)<=4096;omega) (fun u hu=>by cases hu);have hn:NumI zc3:=.mk ⟨by decide,by decide⟩ (fun u hu=>by cases hu);unfold zcr;split
 ·exact⟨Nat.le_refl _,by show(0:Nat)<=2147483647;omega,trivial⟩
 ·split
  ·split
   ·exact⟨Nat.le_refl _,by show(0:Nat)<=2147483647;omega,by show(0:Int).natAbs<=0*_;simp⟩
   ·exact⟨Nat.le_refl _,by show(0:Nat)<=2147483647;omega,by show(0:Int).natAbs<=0*_;simp⟩
  ·split
   ·exact⟨Nat.le_refl _,by show(0:Nat)<=2147483647;omega,hok,hd,hz,hn⟩
   ·split
    ·exact⟨Nat.le_refl _,by show(0:Nat)<=2147483647;omega,hz⟩
    ·exact⟨Nat.le_refl _,by show(0:Nat)<=2147483647;omega,trivial⟩
def znP (w:World)(op:Int)(f:Fd)(e:Ending)(w':World):Prop:=Below w.heap.size w w' /\
 (((zbk op f).2≠0/\e=.returned (.tuple #[.pointer none,.int .i64 (zbk op f).2])) \/
  ((zbk op f).2=0/\∃fb b zb fp fc,e=.returned (.tuple #[.pointer (some ⟨fb,0,none⟩),.int .i64 0])/\w.heap.size<=fb/\w.heap.size<=b/\w.heap.size<=zb/\FdOk (zbk op f).1/\FoldAt (ziJ w.heap.size b zb) w' fb b zb op f fp fc (zcr op (zbk op f).1 (zax f).k)))
theorem zrj (g:Fd)(p:Option Addr)(cap:Nat)(w:World):(Instr.field 26 (.agg #[.string g.nm,.bool g.nl,.int .i64 g.k,.int .i64 g.wd,.int .i64 g.id,.int .i64 g.ix,.slice p g.kids.length cap]) 2).run Tryz.prog w=.ok (.agg #[.int .i64 g.k,.int .i64 g.wd,.int .i64 g.id,.int .i64 g.ix,.slice p g.kids.length cap]) w:=by kernel_rfl
theorem zrk (g:Fd)(p:Option Addr)(cap:Nat)(w:World):(Instr.field 24 (.agg #[.int .i64 g.k,.int .i64 g.wd,.int .i64 g.id,.int .i64 g.ix,.slice p g.kids.length cap]) 0).run Tryz.prog w=.ok (.int .i64 g.k) w:=by kernel_rfl
theorem zhK {w:World}{f:Fd}{p:Option Addr}{cap:Nat}(op:Int)(hop:zah op)(hf:FdAt w f (Fld.f7 f p cap))(hS:SaysAt w) :
  Calls Tryz.prog 11 #[.int .i64 op,.agg #[.string f.nm,.bool f.nl,.int .i64 f.k,.int .i64 f.wd,.int .i64 f.id,.int .i64 f.ix,.slice p f.kids.length cap]] w (znP w op f):=by
 have HF:=zh hf;have HS:=zh hS;obtain⟨W,hW,a1,hBW⟩:=zao w 26 (Fld.f7 f p cap);have HW:=zh hW;have A1:=zh a1;have HBW:=zh hBW;have HTY:=zh (zji op hop (hf.below hBW) (hS.below hBW));obtain⟨r,hr⟩:=Fld.nm (zbk op f);obtain⟨g,er⟩:=r;rw[<-hr] at HTY;obtain⟨PP,hPP⟩:=Fld.nm (znP w op f);rw[<-hPP];have HR:=zh hr;have HPP:=zh hPP;clear hf hS hW a1 hBW hr hPP
 go_in
 go_wp2_with fail;rw[<-HW.o];refine HTY.o.mono ?_;rintro e W1 ⟨gp,gc,rfl,hg,hb1⟩;simp only at hg ⊢;have HB1:=zh (HBW.o.trans (hb1.mono HBW.o.size));have B1:=zh (A1.o.below hb1 A1.o.lt);have HG:=zh hg;have hop':=hop;unfold zah at hop';clear hb1 hg;by_cases hz:er=0;rotate_left
 ·have hz1:(er == 0)=false:=by simpa using hz
  have hz2:(er != 0)=true:=by simpa using hz
  have HZ:=zh hz;clear hz;go_wp2_with fail;rw[HPP.o];exact⟨HB1.o.alloc HB1.o.size _,.inl ⟨by rw[<-HR.o];exact HZ.o,by rw[<-HR.o];rfl⟩⟩
 subst hz;have hte:(zbk op f).2=0:=by rw[<-HR.o]
 have hg1:(zbk op f).1=g:=by rw[<-HR.o]
 obtain⟨o1,o9,hmay⟩:=zpZ hte;have hgm:zbN g=true:=by rw[<-hg1];exact zoP hte
 have HTE:=zh hte;have HG1:=zh hg1;have HOKF:=zh (zgJ hmay);have HOKG:=zh (zgJ hgm);clear hte hg1 hmay hgm;obtain⟨Y,hY,c2,hBY⟩:=zao W1 26 (Fld.f7 g gp gc);have HY:=zh hY;obtain⟨gb,hgb⟩:=Fld.nm (W1.heap.size);rw[<-hgb] at c2;have hBYw:Below w.heap.size w Y:=HB1.o.trans (hBY.mono HB1.o.size);have HBY:=zh hBYw;have C1:=zh (B1.o.below hBY B1.o.lt);have C2:=zh c2;have HGY:=zh (HG.o.below hBY);have HGB:=zh hgb;clear hY c2 hBY hBYw;go_wp2_with fail;rw[<-HY.o,<-hgb];clear hgb;obtain⟨V,hV⟩:=Fld.nm (Y.drew);have HYV:=zh (show Below Y.heap.size Y V by rw[hV];exact zaf (Below.refl _ _));have HV:=zh (HBY.o.trans (HYV.o.mono HBY.o.size));have HS0:=zh (show RowAt V w.heap.size (Fld.f7 f p cap)/\RowAt V gb (Fld.f7 g gp gc) from⟨(C1.o.below HYV.o C1.o.lt).row,(C2.o.below HYV.o C2.o.lt).row⟩);refine Late.region (fun w'=>RowAt w' w.heap.size (Fld.f7 f p cap)/\RowAt w' gb (Fld.f7 g gp gc)) (fun j=>decide (13<=j)) rfl ?_;rw[<-hV];clear hV;refine Late.tb (i:=0) (v:=?_) ?_ HS0.o ?_;rotate_left
 ·intro w' hS;clear hS;go_simp;rfl
 refine Late.tb (i:=1) (v:=?_) ?_ HS0.o ?_;rotate_left
 ·intro w' hS;have s0:=hS.1 0 _ rfl;have s1:=hS.1 1 _ rfl;have s2:=hS.1 2 _ rfl;have s3:=hS.1 3 _ rfl;have s4:=hS.1 4 _ rfl;have s5:=hS.1 5 _ rfl;have s6:=hS.1 6 _ rfl;clear hS;go_simp;rfl
 refine Late.tb (i:=3) (v:=?_) ?_ HS0.o ?_;rotate_left
 ·intro w' hS;clear hS;go_simp;rfl
 refine Late.tb (i:=4) (v:=?_) ?_ HS0.o ?_;rotate_left
 ·intro w' hS;have s0:=hS.2 0 _ rfl;have s1:=hS.2 1 _ rfl;have s2:=hS.2 2 _ rfl;have s3:=hS.2 3 _ rfl;have s4:=hS.2 4 _ rfl;have s5:=hS.2 5 _ rfl;have s6:=hS.2 6 _ rfl;clear hS;go_simp;rfl
 refine Late.tb (i:=6) (v:=?_) ?_ HS0.o ?_;rotate_left
 ·intro w' hS;have s0:=hS.1 0 _ rfl;have s1:=hS.1 1 _ rfl;have s2:=hS.1 2 _ rfl;have s3:=hS.1 3 _ rfl;have s4:=hS.1 4 _ rfl;have s5:=hS.1 5 _ rfl;have s6:=hS.1 6 _ rfl;clear hS;go_simp;rfl
 refine Late.on (i:=2) fun K hK=>?_;go_simp;refine(zjh f HOKF.o V p cap (HF.o.below HV.o)).mono ?_;rintro e w1 ⟨fp,fc,rfl,hfd,hb⟩;have HB1w:=zh (HV.o.trans (hb.mono HV.o.size));have HF1:=zh hfd.toM;have HB1W:=zh hb;clear hfd;have HS1:=zh (show RowAt w1 w.heap.size (Fld.f7 f p cap)/\RowAt w1 gb (Fld.f7 g gp gc) from⟨fun i x hx=>zaa hb (HS0.o.1 i x hx),fun i x hx=>zaa hb (HS0.o.2 i x hx)⟩);clear hb;refine hK _ _ (fun _=>HS1.o) ?_;clear hK K;refine Late.on (i:=5) fun K hK=>?_;go_simp;refine(zjh g HOKG.o w1 gp gc (HGY.o.below ((HYV.o.trans (HB1W.o.mono HYV.o.size))))).mono ?_;rintro e w2 ⟨gp2,gc2,rfl,hgd,hb⟩;have HB2:=zh hb;have HG2:=zh (M.AtL.mono (T:=fun k=>w.heap.size<=k) (fun k hk=>Nat.le_trans HB1w.o.size hk) hgd.toM);clear hgd;have HS2:=zh (show RowAt w2 w.heap.size (Fld.f7 f p cap)/\RowAt w2 gb (Fld.f7 g gp gc) from⟨fun i x hx=>zaa hb (HS1.o.1 i x hx),fun i x hx=>zaa hb (HS1.o.2 i x hx)⟩);clear hb;refine hK _ _ (fun _=>HS2.o) ?_;clear hK K;refine Late.on (i:=7) fun K hK=>?_;go_simp;refine(ziQ f HOKF.o w2 p cap (HF.o.below (HB1w.o.trans (HB2.o.mono HB1w.o.size)))).mono ?_;rintro e w3 ⟨bp,bc,rfl,hbd,hb⟩;have HB3:=zh (HB2.o.trans (hb.mono HB2.o.size));have HKB:=zh (show zah (zax f).k by obtain⟨_,_,_,_,_,h,_⟩:=hbd.at.shape;exact h);have HG3:=zh (HG2.o.below hb);clear hbd;have HS3:=zh (show RowAt w3 w.heap.size (Fld.f7 f p cap)/\RowAt w3 gb (Fld.f7 g gp gc) from⟨fun i x hx=>zaa hb (HS2.o.1 i x hx),fun i x hx=>zaa hb (HS2.o.2 i x hx)⟩);clear hb;refine hK _ _ (fun _=>HS3.o) ?_;clear hK K;obtain⟨bf,hbf⟩:=Fld.nm (zax f);have HBF:=zh hbf;rw[<-hbf] at HKB ⊢;clear hbf;refine Late.tb (i:=8) (v:=?_) ?_ HS3.o ?_;rotate_left
 ·intro w' hS;clear hS;have hq:=zrj bf bp bc w';go_simp;rfl
 refine Late.tb (i:=9) (v:=?_) ?_ HS3.o ?_;rotate_left
 ·intro w' hS;clear hS;have hq:=zrk bf bp bc w';go_simp;rfl
 have HMD:=zh (znO (m:=w.heap.size) op bf.k HKB.o o1 o9 (HB1w.o.trans (HB3.o.mono HB1w.o.size)).size HG3.o);refine Late.on (i:=10) fun K hK=>?_;go_simp;refine HMD.o.mono ?_;rintro e w4 ⟨hb,ab,azb,rfl,hl1,hl2,hag⟩;obtain⟨SA,hSA⟩:=Fld.nm (zcr op g bf.k);rw[<-hSA] at hag ⊢;have HSA:=zh hSA;have HAG:=zh hag;have HL:=zh (And.intro hl1 hl2);have HB4:=zh (HB3.o.trans (hb.mono HB3.o.size));have HS4:=zh (show RowAt w4 w.heap.size (Fld.f7 f p cap)/\RowAt w4 gb (Fld.f7 g gp gc) from⟨fun i x hx=>zaa hb (HS3.o.1 i x hx),fun i x hx=>zaa hb (HS3.o.2 i x hx)⟩);clear hb hSA hag hl1 hl2;refine hK _ _ (fun _=>HS4.o) ?_;clear hK K;refine Late.tb (i:=11) (v:=?_) ?_ HS4.o ?_;rotate_left
 ·intro w' hS;clear hS;go_simp;rfl
 obtain⟨W5,hW5,a5,b5⟩:=zao w4 64 [.int .i64 op,.string f.nm,.bool f.nl,.int .i64 f.k,.int .i64 f.wd,.int .i64 f.id,.int .i64 f.ix,.slice fp f.kids.length fc,.iface (zbe SA) (.pointer (some ⟨ab,0,none⟩))];have HW5:=zh hW5;have A5:=zh a5;have HB5:=zh b5;clear hW5 a5 b5;refine Late.on (i:=12) fun K hK=>?_;go_simp;rw[<-HW5.o];refine hK _ _ (fun _=>⟨fun i x hx=>zaa HB5.o (HS4.o.1 i x hx),fun i x hx=>zaa HB5.o (HS4.o.2 i x hx)⟩) ?_;clear hK K;refine Late.on (i:=13) fun K hK=>?_;go_simp;refine hK _ _ (fun h=>by cases h) ?_;clear hK K;refine Late.on (i:=14) fun K hK=>?_;go_simp;refine hK _ _ (fun h=>by cases h) ?_;clear hK K;refine Late.done (by kernel_rfl) ?_ _;go_wp2_with fail;rw[HPP.o];have hB45:Below w1.heap.size w1 W5:=HB4.o.trans (HB5.o.mono HB4.o.size);have h4:=HB4.o.size;have h3:=HB3.o.size;have hL:=HL.o;have h1w:=HB1w.o.size;have hvs:=HV.o.size;refine⟨HB1w.o.trans (hB45.mono HB1w.o.size),.inr ⟨HTE.o,w4.heap.size,ab,azb,fp,fc,rfl,by omega,by omega,by omega,by rw[HG1.o];exact(FdAt.toM HGY.o).1,?_,?_,?_,?_⟩⟩
 ·rw[HG1.o,<-HBF.o,<-HSA.o];exact A5.o
 ·refine HF1.o.keep (fun k hk hl=>⟨hB45.block k hl,fun h=>?_⟩);rcases h with(e|e)|e <;> omega
 ·rw[HG1.o,<-HBF.o,<-HSA.o];exact HAG.o.below HB5.o
 ·have h6:=HAG.o.lt;rintro((e|e)|e)
  ·have:=h6 ab (.inl (.inl rfl));omega
  ·have:=h6 azb (.inl (.inr rfl));omega
  ·omega
end Go.Fld
