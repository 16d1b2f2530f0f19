import Derived.Test.YthocbeghnkacnaaGreatDoorT25
import Derived.Defers
import Derived.Recover
import Derived.Lib.EndianBits
set_option linter.unusedVariables false
set_option linter.unusedSimpArgs false
set_option linter.unnecessarySimpa false
set_option maxRecDepth 100000
set_option maxHeartbeats 16000000
namespace Go.Fld
open Go Go.RowKit Go.Proofs Go.ChangeShapes Go.WideShapes Go.ChangeAt Go.Shelf Go.Fld.Late
theorem zll (a v:Value):#[a] ++ ((Array.replicate 17 undef).setIfInBounds 4 v).setIfInBounds 1 v=#[a,undef,v,undef,undef,v,undef,undef,undef,undef,undef,undef,undef,undef,undef,undef,undef,undef]:=by kernel_rfl
theorem zqI:∀w:World,(Instr.typeAssert (.iface 168 (.agg #[])) 20 168 true).run Tryz.prog w=.ok (.tuple #[.agg #[],.bool true]) w:=fun w=>rfl
theorem zmq (p:Addr)(w:World) :
  CallsD Tryz.prog 58 #[.pointer (some p)] .returning w fun e u' w'=>e=.returned (.tuple #[])/\u'=.returning/\w'=w:=by
 refine callsD_of_wpS Tryz.func58 rfl fun c₀ cs hu=>?_;apply wpS_seq;apply wpS_region;simp[wpOpsS,go_sem,recoverD,hu,Tryz.ntmps58,Exit.thenS];rw[zll];refine wpS_of_wp ?_;go_wp2_with fail;cases c₀
 simp_all [bodyPostS,results,Tryz.results58]
theorem zmr (b:Nat)(x:Int)(w:World)(hb:BoxN w b 31 [.int .i64 x]) :
  CallsD Tryz.prog 58 #[.pointer (some ⟨b,0,none⟩)] (.panicking [{ v:=.iface 168 (.agg #[]),recovered:=false }]) w fun e u' w'=>
   e=.returned (.tuple #[])/\u'=.panicking [{ v:=.iface 168 (.agg #[]),recovered:=true }]/\w'=(w.setCell ⟨b,0,none⟩ (.int .i64 7)).alloc (.cells #[] 168):=by
 have hc:=hb.row 0 _ rfl;have hz:=hb.frozen 0;have hlt:=hb.lt;have hta:=zqI;refine callsD_of_wpS Tryz.func58 rfl fun c₀ cs hu=>?_;apply wpS_seq;apply wpS_region;simp[wpOpsS,go_sem,recoverD,hu,Tryz.ntmps58,Exit.thenS];rw[zll];refine wpS_of_wp ?_;clear hu;go_wp2_with fail;cases c₀
 simp_all [bodyPostS,results,Tryz.results58]
def ziA (f:Fd)(d:Dt)(r:Nat):Rd:=zay (zaN d) f d r 4194304
def zcJ (f:Fd)(d:Dt)(r:Nat):Vl × Int:=match ziA f d r with
 | none=>(.mk false 0 ⟨#[]⟩ [],7)
 | some (v,_)=>(v,0)
def zhs (f:Fd)(d:Dt)(r:Nat):Int:=match ziA f d r with
 | none=>0
 | some (_,y)=>4194304-y
def zqJ (w:World)(f:Fd)(d:Dt)(r:Nat)(e:Ending)(w':World):Prop:=∃vs,e=.returned (.tuple #[.agg vs.toArray,.int .i64 (zhs f d r),.int .i64 (zcJ f d r).2])/\VAt (fun b=>w.heap.size<=b) w' (zcJ f d r).1 vs/\Below w.heap.size w w'
theorem zmR {fn:Func}{i j k:Nat}(hfn:fn.results=#[.cell i 39,.tmp j,.cell k 31]){W:World}{tmps:Array Value}{rb eb:Nat}{u c0 c1 c2 c3 x:Value}(ht:tmps.getD i undef=.pointer (some ⟨rb,0,none⟩))(hu:tmps.getD j undef=u)(hk:tmps.getD k undef=.pointer (some ⟨eb,0,none⟩))(hw:RowAt W rb [c0,c1,c2,c3])(he:RowAt W eb [x]) :
  (results fn tmps).run Tryz.prog W=.ok (.tuple #[.agg #[c0,c1,c2,c3],u,x]) W:=by
 have h0:=hw 0 _ rfl;have h1:=hw 1 _ rfl;have h2:=hw 2 _ rfl;have h3:=hw 3 _ rfl;have h4:=he 0 _ rfl;rw[Array.getD_eq_getD_getElem?] at ht hu hk;simp[results,hfn,go_sem,ht,hu,hk,h0,h1,h2,h3,h4]
theorem zf1 {fn:Func}{t t':Array Value}{R:Ending->World->Prop}(h:results fn t'=results fn t):∀(ds:List Deferred) (u:FrameMode) (w:World),Leaves Tryz.prog fn t R ds u w->Leaves Tryz.prog fn t' R ds u w
 | [],.returning,w,hl=>by unfold Leaves at hl ⊢;rw[h];exact hl
 | [],.panicking chain,w,hl=>hl
 | [],.run,w,hl=>hl
 | d :: ds,u,w,hl=>by
  unfold Leaves at hl ⊢;obtain⟨h1,fv,cap,f,args,h2,h3,h4⟩:=hl;refine⟨h1,fv,cap,f,args,h2,h3,h4.mono fun e u' w' hh=>?_⟩;cases e with
  | returned v=>exact zf1 h ds _ _ hh
  | panicked c=>exact zf1 h ds _ _ hh
  | outgrown=>exact hh
theorem zqK (t:Array Value)(i:Nat)(hi:i≠4/\i≠5/\i≠6)(v:Value):results Tryz.f41 t=results Tryz.f41 (t.setIfInBounds i v):=by
 have g4:(t.setIfInBounds i v)[4]?=t[4]?:=Array.getElem?_setIfInBounds_ne hi.1;have g5:(t.setIfInBounds i v)[5]?=t[5]?:=Array.getElem?_setIfInBounds_ne hi.2.1;have g6:(t.setIfInBounds i v)[6]?=t[6]?:=Array.getElem?_setIfInBounds_ne hi.2.2;simp only[results,Tryz.results41];simp[g4,g5,g6]
theorem zht {R:Ending->World->Prop}{K:Act->World->Prop}{i:Nat}(hi:i≠4/\i≠5/\i≠6){v:Value}{c:List PanicEntry}{a:Act}{w:World}(h:Exit.then K (bodyPostD Tryz.prog Tryz.f41 R) (.panic c) (a.put (some i) v) w):Exit.then K (bodyPostD Tryz.prog Tryz.f41 R) (.panic c) a w:=
 zf1 (zqK a.tmps i hi v) _ _ _ h
theorem zi4 {w:World}{ab fr i:Nat}{f:Fd}{d:Dt}{n:Int}(hA:ArrAt w w ab f d fr n)(hwell:(zap f d).1=0)(hrow:d.off.toNat<=fr+i/\((fr+i:Nat):Int)<d.off+d.len)(hT:Lib.Utf8Tabs 1 2 w) :
  Calls Tryz.prog 41 #[.pointer (some ⟨ab,0,none⟩),.int .i64 i] w (zqJ w f d (fr+i)):=by
 obtain⟨nn,hnn⟩:∃nn,zaN d=nn+1:=by
  cases d with
  | mk len off nul bufs kids dict=>rw[zaN];exact⟨max (zef kids) (zef dict),by omega⟩
 obtain⟨W1,hW,a0,a1,a2,hBW⟩:=zbG w 39 [.bool false,.int .i64 0,.string ⟨#[]⟩,.slice none 0 0] 31 [.int .i64 0] 3 [.int .i64 4194304];have hab:=hA.lt;have hs1:W1.heap.size=w.heap.size+3:=by rw[hW,World.size_alloc,World.size_alloc,World.size_alloc]
 have HRD:Hid (RdIn w W1 ab (w.heap.size+1+1) f d fr n (fr+i) 4194304):=zh ⟨hBW,hA.below hBW,a2,⟨by omega,by omega⟩,by omega,hwell,hrow,hT⟩;have HOC:=zh (zj6 (zmQ nn) HRD.o (by omega));have HGV:=zh (show ziA f d (fr+i)=zay (nn+1) f d (fr+i) 4194304 by unfold ziA;rw[hnn]);obtain⟨res,hres⟩:∃res,zay (nn+1) f d (fr+i) 4194304=res:=⟨_,rfl⟩;rw[hres] at HOC HGV;have HW:=zh hW;have A0:=zh a0;have A1:=zh a1;have L1:=zh (LeftAt.refl a2);have HBW:=zh hBW;have HS1:=zh hs1;clear hA hwell hrow hT hnn hres hW a0 a1 a2 hBW hs1
 go_enter_defers Tryz.func41,Tryz.ntmps41
 go_wp2_with fail;rw[<-HW.o];clear HW;refine HOC.o.mono ?_;rintro e W2 (⟨hn,rfl,z,hz⟩|⟨v,z,vs,hv,rfl,hvat,hz,hzb⟩)
 ·have hlt0:=A0.o.lt;have B0:=A0.o.kept hz.grown (by intro e;have:=Option.some.inj e;omega);have B1:=A1.o.kept hz.grown (by intro e;have:=Option.some.inj e;omega);have HB2:Below w.heap.size w W2:=hz.base HBW.o (by omega);have HNR:=zh (show zcJ f d (fr+i)=(.mk false 0 ⟨#[]⟩ [],7)/\zhs f d (fr+i)=0 by unfold zcJ zhs;rw[HGV.o,hn];exact⟨rfl,rfl⟩);have H0:=zh B0;have H1:=zh B1;have H2:=zh HB2;clear hz hn B0 B1 HB2;go_wp2_with fail;refine leaves_cons (f:=58) (args:=#[.pointer (some ⟨w.heap.size+1,0,none⟩)]) (by simp) (by simp[go_sem]) ?_;refine(zmr (w.heap.size+1) 0 _ H1.o).mono ?_;rintro e u' w'' ⟨rfl,rfl,rfl⟩;refine⟨_,zmR (i:=4) (j:=5) (k:=6) rfl rfl rfl rfl ((H0.o.other (a:=⟨w.heap.size+1,0,none⟩) (by show w.heap.size≠w.heap.size+1;omega) _).alloc _).row ((H1.o.set 0 (.int .i64 7)).alloc _).row,?_⟩;have hbw:Below w.heap.size w (W2.setCell ⟨w.heap.size+1,0,none⟩ (.int .i64 7)):=H2.o.setCell (p:=⟨w.heap.size+1,0,none⟩) (by show w.heap.size<=w.heap.size+1;omega) _;refine⟨[.bool false,.int .i64 0,.string ⟨#[]⟩,.slice none 0 0],?_,?_,hbw.alloc hbw.size _⟩
  ·rw[HNR.o.1,HNR.o.2];rfl
  ·rw[HNR.o.1];exact VAt.flat false 0 ⟨#[]⟩
 ·have B0:=A0.o.kept hz.grown (by intro e;have:=Option.some.inj e;omega);have B1:=A1.o.kept hz.grown (by intro e;have:=Option.some.inj e;omega);have HB2:Below w.heap.size w W2:=hz.base HBW.o (by omega);have HNR:=zh (show zcJ f d (fr+i)=(v,0)/\zhs f d (fr+i)=IntKind.i64.wrap (4194304-z) by unfold zcJ zhs;rw[HGV.o,hv,IntWalk.i64_in (4194304-z) (by omega)];exact⟨rfl,rfl⟩);have hlt1:=HS1.o;have HV:=zh (show VAt (fun b=>w.heap.size+3<=b) W2 v vs from hvat.mono fun b hb=>by have hb':W1.heap.size<=b:=hb;omega);obtain⟨pp,pc,rfl,-⟩:=hvat.shape;have H0:=zh B0;have H1:=zh B1;have H2:=zh HB2;have H3:=zh hz.box;obtain⟨m0,m1,m2,m3⟩:=rr4 B0.row;obtain⟨z0,z1,z2,z3⟩:=ff4 B0;have hl1':=B0.lt;clear hz hv B0 B1 HB2 hvat;go_wp2_with fail;obtain⟨V,hV⟩:=nm (put4 W2 w.heap.size (.bool v.nl) (.int .i64 v.num) (.string v.tx) (.slice pp v.kids.length pc));have K0:=zh (show BoxN V w.heap.size 39 (v4 v pp pc) by rw[hV];exact zaS rfl H0.o _ _ _ _);have K1:=zh (show BoxN V (w.heap.size+1) 31 [.int .i64 0] by rw[hV];exact(zaQ (by omega) _ _ _ _).trans H1.o);have K3:=zh (show BoxN V (w.heap.size+1+1) 3 [.int .i64 z] by rw[hV];exact(zaQ (by omega) _ _ _ _).trans H3.o);have K2:=zh (show Below w.heap.size w V by rw[hV];exact zbP H2.o (Nat.le_refl _) _ _ _ _);have KV:=zh (show VAt (fun b=>w.heap.size+3<=b) V v (v4 v pp pc) by rw[hV];exact HV.o.keep fun b hb hlt=>⟨zaQ (by have hb':w.heap.size+3<=b:=hb;omega) _ _ _ _,hb⟩);rw[show(((W2.setCell ⟨w.heap.size,0,none⟩ (.bool v.nl)).setCell ⟨w.heap.size,1,none⟩ (.int .i64 v.num)).setCell ⟨w.heap.size,2,none⟩ (.string v.tx)).setCell ⟨w.heap.size,3,none⟩ (.slice pp v.kids.length pc)=V from hV.symm];clear hV m0 m1 m2 m3 z0 z1 z2 z3 hl1';refine Late.region (fun w'=>RowAt w' w.heap.size (v4 v pp pc)/\w'.cell? ⟨w.heap.size+1+1,0,none⟩=some (.int .i64 z)) (fun _=>false) (by kernel_rfl) ?_;obtain⟨Vd,hVd⟩:=nm (V.drew);have J0:=zh (show BoxN Vd w.heap.size 39 (v4 v pp pc) by rw[hVd];exact K0.o);have J1:=zh (show BoxN Vd (w.heap.size+1) 31 [.int .i64 0] by rw[hVd];exact K1.o);have J3:=zh (show BoxN Vd (w.heap.size+1+1) 3 [.int .i64 z] by rw[hVd];exact K3.o);have J2:=zh (show Below w.heap.size w Vd by rw[hVd];exact zaf K2.o);have JV:=zh (show VAt (fun b=>w.heap.size+3<=b) Vd v (v4 v pp pc) by rw[hVd];exact KV.o.below (zaf (Below.refl _ V)));rw[<-hVd];clear hVd K0 K1 K2 K3 KV;have HS0:=zh (And.intro J0.o.row (J3.o.row 0 _ rfl));refine Late.take (i:=0) (v:=?_) rfl (by kernel_rfl) (by kernel_rfl) (by kernel_rfl) (by kernel_rfl) (fun _ _ _ h=>zht (i:=11) (by decide) h) (Or.inl ⟨by rfl,?_⟩) HS0.o ?_;rotate_left
  ·intro w' hS;have p0:=hS.1 0 _ rfl;have p1:=hS.1 1 _ rfl;have p2:=hS.1 2 _ rfl;have p3:=hS.1 3 _ rfl;clear hS;go_simp;rfl
  refine Late.take (i:=1) (v:=?_) rfl (by kernel_rfl) (by kernel_rfl) (by kernel_rfl) (by kernel_rfl) (fun _ _ _ h=>zht (i:=12) (by decide) h) (Or.inl ⟨by rfl,?_⟩) HS0.o ?_;rotate_left
  ·intro w' hS;have p0:=hS.2;clear hS;go_simp;rfl
  refine Late.take (i:=2) (v:=?_) rfl (by kernel_rfl) (by kernel_rfl) (by kernel_rfl) (by kernel_rfl) (fun _ _ _ h=>zht (i:=13) (by decide) h) (Or.inl ⟨by rfl,?_⟩) HS0.o ?_;rotate_left
  ·intro w' hS;clear hS;go_simp;rfl
  obtain⟨m0,m1,m2,m3⟩:=rr4 J0.o.row;obtain⟨z0,z1,z2,z3⟩:=ff4 J0.o;have hl1':=J0.o.lt;refine Late.on (i:=3) fun K hK=>?_;go_simp;obtain⟨U,hU⟩:=nm (put4 Vd w.heap.size (.bool v.nl) (.int .i64 v.num) (.string v.tx) (.slice pp v.kids.length pc));have K0:=zh (show BoxN U w.heap.size 39 (v4 v pp pc) by rw[hU];exact zaS rfl J0.o _ _ _ _);have K1:=zh (show BoxN U (w.heap.size+1) 31 [.int .i64 0] by rw[hU];exact(zaQ (by omega) _ _ _ _).trans J1.o);have K3:=zh (show BoxN U (w.heap.size+1+1) 3 [.int .i64 z] by rw[hU];exact(zaQ (by omega) _ _ _ _).trans J3.o);have K2:=zh (show Below w.heap.size w U by rw[hU];exact zbP J2.o (Nat.le_refl _) _ _ _ _);have KV:=zh (show VAt (fun b=>w.heap.size+3<=b) U v (v4 v pp pc) by rw[hU];exact JV.o.keep fun b hb hlt=>⟨zaQ (by have hb':w.heap.size+3<=b:=hb;omega) _ _ _ _,hb⟩);rw[show(((Vd.setCell ⟨w.heap.size,0,none⟩ (.bool v.nl)).setCell ⟨w.heap.size,1,none⟩ (.int .i64 v.num)).setCell ⟨w.heap.size,2,none⟩ (.string v.tx)).setCell ⟨w.heap.size,3,none⟩ (.slice pp v.kids.length pc)=U from hU.symm];clear hU m0 m1 m2 m3 z0 z1 z2 z3 hl1';have HS1':=zh (And.intro K0.o.row (K3.o.row 0 _ rfl));refine hK _ _ (fun _=>HS1'.o) ?_;clear hK K;refine Late.on (i:=4) fun K hK=>?_;go_simp;refine hK _ _ (fun _=>HS1'.o) ?_;clear hK K;have e0:=K1.o.row 0 _ rfl;have ez:=K1.o.frozen 0;have el:=K1.o.lt;refine Late.on (i:=5) fun K hK=>?_;go_simp;have hne:w.heap.size≠w.heap.size+1:=by omega
  have hne2:w.heap.size+1+1≠w.heap.size+1:=by omega
  have D0:=zh (K0.o.other (a:=⟨w.heap.size+1,0,none⟩) hne (.int .i64 0));have D1:=zh (K1.o.set 0 (.int .i64 0));have D3:=zh (K3.o.other (a:=⟨w.heap.size+1,0,none⟩) hne2 (.int .i64 0));have hq:=And.intro D0.o.row (D3.o.row 0 _ rfl);refine hK _ _ (fun _=>hq) ?_;clear hK K hq;refine Late.done (by kernel_rfl) ?_ _;go_wp2_with fail;refine leaves_cons (f:=58) (args:=#[.pointer (some ⟨w.heap.size+1,0,none⟩)]) (by simp) (by simp[go_sem]) ?_;refine(zmq ⟨w.heap.size+1,0,none⟩ _).mono ?_;rintro e u' w'' ⟨rfl,rfl,rfl⟩;refine⟨_,zmR (i:=4) (j:=5) (k:=6) rfl rfl rfl rfl D0.o.row D1.o.row,?_⟩;refine⟨(v4 v pp pc),?_,?_,K2.o.setCell (p:=⟨w.heap.size+1,0,none⟩) (by show w.heap.size<=w.heap.size+1;omega) _⟩
  ·rw[HNR.o.1,HNR.o.2];rfl
  ·rw[HNR.o.1];exact KV.o.keep fun b hb hlt=>⟨Below.heap_setCell _ _ _ b (by have hb':w.heap.size+3<=b:=hb;show b≠w.heap.size+1;omega),(by have hb':w.heap.size+3<=b:=hb;show w.heap.size<=b;omega)⟩
theorem zpH (f:Fd)(d:Dt)(r:Nat):((zcJ f d r).2=7/\(zcJ f d r).1=.mk false 0 ⟨#[]⟩ [])\/(zcJ f d r).2=0:=by
 unfold zcJ;cases ziA f d r with
 | none=>exact .inl ⟨rfl,rfl⟩
 | some p=>exact .inr rfl
theorem zlm {w:World}{ab i n:Nat}{l:List Value}(hb:BoxN w ab 115 l)(hc:l[14]?=some (.int .i64 n))(hi:i<n)(hn:n<=4611686018427387904):Calls Tryz.prog 55 #[.pointer (some ⟨ab,0,none⟩),.int .i64 i] w (zaz w (.bool true)):=by
 have p14:=hb.row 14 _ hc;have hlt:=hb.lt;clear hb hc
 go_in
 go_wp2_with fail;go_ret;exact zav rfl rfl
def zqL (w:World)(a:Vl × Int)(e:Ending)(w':World):Prop:=∃pp pc,e=.returned (.tuple #[.agg #[.bool a.1.nl,.int .i64 a.1.num,.string a.1.tx,.slice pp a.1.kids.length pc],.int .i64 a.2])/\VAt (fun b=>w.heap.size<=b) w' a.1 [.bool a.1.nl,.int .i64 a.1.num,.string a.1.tx,.slice pp a.1.kids.length pc]/\Below w.heap.size w w'
theorem zmS {fn:Func}{i j:Nat}(hfn:fn.results=#[.cell i 39,.tmp j]){W:World}{tmps:Array Value}{rb:Nat}{u c0 c1 c2 c3:Value}(ht:tmps.getD i undef=.pointer (some ⟨rb,0,none⟩))(hu:tmps.getD j undef=u)(hw:RowAt W rb [c0,c1,c2,c3]) :
  (results fn tmps).run Tryz.prog W=.ok (.tuple #[.agg #[c0,c1,c2,c3],u]) W:=by
 have h0:=hw 0 _ rfl;have h1:=hw 1 _ rfl;have h2:=hw 2 _ rfl;have h3:=hw 3 _ rfl;rw[Array.getD_eq_getD_getElem?] at ht hu;simp[results,hfn,go_sem,ht,hu,h0,h1,h2,h3]
theorem zox {w:World}{ab fr i n:Nat}{f:Fd}{d:Dt}(hA:ArrAt w w ab f d fr n)(hwell:(zap f d).1=0)(hrow:d.off.toNat<=fr+i/\((fr+i:Nat):Int)<d.off+d.len)(hT:Lib.Utf8Tabs 1 2 w)(hi:i<n)(hn:n<=4096) :
  Calls Tryz.prog 38 #[.pointer (some ⟨ab,0,none⟩),.int .i64 i] w (zqL w (zcJ f d (fr+i))):=by
 obtain⟨W1,hW,a0,hBW⟩:=zao w 39 [.bool false,.int .i64 0,.string ⟨#[]⟩,.slice none 0 0];have hAW:=hA.below hBW;obtain⟨fp,fc,bp,bc,kp,kc,dp,dc,hbx,-,-⟩:=hAW.at';have HTH:=zh (zlm hbx rfl hi (by omega));have HGC:=zh (zi4 (w:=W1) (hAW.base hBW) hwell hrow (Utf8Tabs_below hT hBW));have HW:=zh hW;have A0:=zh a0;have HBW:=zh hBW;have hErr:=zpH f d (fr+i);have HERR:=zh hErr;clear hA hwell hrow hT hi hn hW a0 hBW hAW hbx hErr
 go_in
 go_wp2_with fail;rw[<-HW.o];clear HW;refine HTH.o.mono ?_;rintro e W2 ⟨rfl,rfl⟩;go_wp2_with fail;refine HGC.o.mono ?_;rintro e W3 ⟨vs,rfl,hv,hb3⟩;obtain⟨pp,pc,rfl,-⟩:=hv.shape;have HV:=zh hv;have B0:=zh (A0.o.below hb3 A0.o.lt);have HB3:=zh (HBW.o.trans (hb3.mono HBW.o.size));have hsz:=HBW.o.size;have hlt0:=A0.o.lt;have hsz3:=hb3.size;clear hv hb3;obtain⟨av,hav⟩:=nm (zcJ f d (fr+i));rw[<-hav] at HERR HV ⊢;have HAV:=zh hav;obtain⟨tw,htw⟩:=nm (zhs f d (fr+i));rw[<-htw];clear hav htw;obtain⟨v,er⟩:=av;simp only at HERR HV ⊢;rcases HERR.o with⟨h7,hv0⟩|h0
 ·subst h7;subst hv0;clear HERR;obtain⟨m0,m1,m2,m3⟩:=rr4 B0.o.row;obtain⟨z0,z1,z2,z3⟩:=ff4 B0.o;have hl1':=B0.o.lt;go_wp2_with fail;have hbb:Below w.heap.size w (put4 W3 w.heap.size (.bool false) (.int .i64 0) (.string ⟨#[]⟩) (.slice none 0 0)):=zbP HB3.o (Nat.le_refl _) _ _ _ _;refine bodyPost_ret (zmS (i:=4) (j:=5) rfl rfl rfl ((zaS rfl B0.o (.bool false) (.int .i64 0) (.string ⟨#[]⟩) (.slice none 0 0)).alloc _).row) rfl ⟨none,0,?_,?_,hbb.alloc hbb.size _⟩
  ·rw[<-HAV.o];rfl
  ·rw[<-HAV.o];exact VAt.flat false 0 ⟨#[]⟩
 ·subst h0;clear HERR;obtain⟨m0,m1,m2,m3⟩:=rr4 B0.o.row;obtain⟨z0,z1,z2,z3⟩:=ff4 B0.o;have hl1':=B0.o.lt;go_wp2_with fail;have hbb:Below w.heap.size w (put4 W3 w.heap.size (.bool v.nl) (.int .i64 v.num) (.string v.tx) (.slice pp v.kids.length pc)):=zbP HB3.o (Nat.le_refl _) _ _ _ _;refine bodyPost_ret (zmS (i:=4) (j:=5) rfl rfl rfl ((zaS rfl B0.o (.bool v.nl) (.int .i64 v.num) (.string v.tx) (.slice pp v.kids.length pc)).alloc _).row) rfl ⟨pp,pc,?_,?_,hbb.alloc hbb.size _⟩
  ·rw[<-HAV.o];rfl
  ·rw[<-HAV.o];have hk:VAt (fun b=>w.heap.size<=b) (put4 W3 w.heap.size (.bool v.nl) (.int .i64 v.num) (.string v.tx) (.slice pp v.kids.length pc)) v (v4 v pp pc):=HV.o.keep fun b hb hlt=>⟨zaQ (by have hb':W2.heap.size<=b:=hb;omega) _ _ _ _,(by have hb':W2.heap.size<=b:=hb;omega)⟩;exact hk.below ((Below.refl _ _).alloc (Nat.le_refl _) _)
theorem zms {n:Node}{a:Nat}{ids:List Int}(h:za7 n a ids=0):zaU n.f=true/\zc5 n.f=true/\¬(n.inD=true/\(n.f.k=19\/n.f.k=20))/\(n.f.k=19->zc4 n.f=false):=by
 unfold za7 at h;split at h
 ·omega
 split at h
 ·omega
 split at h
 ·omega
 split at h
 ·omega
 split at h
 ·omega
 rename_i h5
 split at h
 ·omega
 rename_i h6
 split at h
 ·omega
 rename_i h7
 split at h
 ·omega
 rename_i h8
 refine⟨by simpa using h5,by simpa using h6,fun e=>h7 ?_,fun e=>?_⟩
 ·rw[e.1];simpa using e.2
 ·simp only[e,decide_true,Bool.true_and,Bool.or_eq_true,not_or] at h8;simpa using h8.1
mutual
def zck (inD:Bool):Fd->Prop
 | .mk nm nl k wd id ix kids=>(zaU (.mk nm nl k wd id ix kids)=true/\zc5 (.mk nm nl k wd id ix kids)=true/\¬(inD=true/\(k=19\/k=20))/\(k=19->zc4 (.mk nm nl k wd id ix kids)=false))/\zgD (inD || decide (k=19)) kids
def zgD (inD:Bool):List Fd->Prop
 | []=>True
 | f :: r=>zck inD f/\zgD inD r
end
theorem zbp {inD:Bool}{f:Fd}:zck inD f↔(zaU f=true/\zc5 f=true/\¬(inD=true/\(f.k=19\/f.k=20))/\(f.k=19->zc4 f=false))/\zgD (inD || decide (f.k=19)) f.kids:=by
 cases f with
 | mk nm nl k wd id ix kids=>rw[zck];exact Iff.rfl
theorem zbj {inD:Bool}:∀ {l:List Fd},zgD inD l->∀f ∈ l,zck inD f
 | g :: r,h,f,hf=>by
  simp only[zgD] at h;rcases List.mem_cons.1 hf with e|e
  ·rw[e];exact h.1
  ·exact zbj h.2 f e
theorem zln {inD:Bool}:∀ {l:List Fd},(∀f ∈ l,zck inD f)->zgD inD l
 | [],_=>trivial
 | g :: r,h=>⟨h g (by simp),zln fun f hf=>h f (by simp[hf])⟩
theorem zg0:∀(r d:Nat) (l:List Fd) (inD:Bool),d+r=65->(∀n ∈ zbR r d l inD,∃a ids,za7 n a ids=0)->zgD inD l
 | 0,d,l,inD,hd,h=>by
  cases l with
  | nil=>trivial
  | cons f l=>
   obtain⟨⟨a,ha⟩,_⟩:=zcn (fun _ _ _=>[]) d (f :: l) inD (f :: l) 0 f (List.mem_cons_self ..);obtain⟨_,_,hw⟩:=h _ ha;have:=(zdo hw).1;simp only at this;omega
 | r+1,d,l,inD,hd,h=>zln fun f hf=>by
  obtain⟨⟨a,ha⟩,hs⟩:=zcn (zbR r) d l inD l 0 f hf;obtain⟨_,_,hw⟩:=h _ ha;exact zbp.2 ⟨zms hw,zg0 r (d+1) f.kids (inD || decide (f.k=19)) (by omega) (fun n hn=>h n (hs n hn))⟩
theorem zg1 {f:Fd}(h:zbh f=0):zck false f:=zbj (zg0 64 1 [f] false rfl (zdP h)) f (by simp)
def zeS (s:ByteArray)(a:Nat):Nat->Int
 | 0=>0
 | n+1=>zeS s a n+zaq s (a+n)*2 ^ (8*n)
theorem znr {i:Nat}(hi:i<=64){y x:Int}(h0:0<=y)(h1:y<2 ^ i)(h2:0<=x)(h3:x % 2 ^ i=0)(h4:x<18446744073709551616):bits .or .u64 y x=y+x:=by
 have hp:(2:Int) ^ i<=2 ^ 64:=by exact_mod_cast Nat.pow_le_pow_right (show 0<2 by decide) hi
 exact bits_join_low .u64 64 (by decide) (fun n a b=>wraps_u64 n a b) i y x h0 h1 (by omega) h2 h3 (by omega)
theorem zfP (s:ByteArray)(a:Nat):∀n,n<=8->zbn s a n=zeS s a n/\0<=zeS s a n/\zeS s a n<2 ^ (8*n)
 | 0,_=>⟨rfl,Int.le_refl _,by simp[zeS]⟩
 | n+1,h=>by
  obtain⟨h1,h2,h3⟩:=zfP s a n (by omega);have hb:=za1 s (a+n);unfold zbn zeS;rw[h1];generalize zaq s (a+n)=B at *;have hp:(0:Int)<2 ^ (8*n):=Int.pow_pos (by decide);have he:(2:Int) ^ (8*(n+1))=2 ^ (8*n)*256:=by rw[show 8*(n+1)=8*n+8 by omega,Int.pow_add];rfl
  have hle:(2:Int) ^ (8*n)*256<=18446744073709551616:=by
   rw[<-he];have:(2:Int) ^ (8*(n+1))<=2 ^ 64:=by exact_mod_cast Nat.pow_le_pow_right (show 0<2 by decide) (show 8*(n+1)<=64 by omega)
   exact this
  have hBp:0<=B*2 ^ (8*n)/\B*2 ^ (8*n)<=255*2 ^ (8*n):=⟨Int.mul_nonneg hb.1 (by omega),Int.mul_le_mul_of_nonneg_right (by omega) (by omega)⟩;have hm:B*2 ^ (8*n) % 2 ^ (8*n)=0:=Int.mul_emod_left _ _;rw[he];rw[u64_wrap_id _ hBp.1 (by omega),znr (by omega) h2 h3 hBp.1 hm (by omega)];exact⟨rfl,by omega,by omega⟩
theorem zq8 (s:ByteArray)(a:Nat):zbn s a 1=zaq s a:=by
 rw[(zfP s a 1 (by omega)).1];simp[zeS]
theorem zqM (s:ByteArray)(r:Nat):s32 s r=if zeS s (4*r) 4<2147483648 then zeS s (4*r) 4 else zeS s (4*r) 4-4294967296:=by
 have h0:=za1 s (4*r);have h1:=za1 s (4*r+1);have h2:=za1 s (4*r+2);have h3:=za1 s (4*r+3);have e:zeS s (4*r) 4=zaq s (4*r)+zaq s (4*r+1)*256+zaq s (4*r+2)*65536+zaq s (4*r+3)*16777216:=by simp[zeS]
 rw[e];unfold s32;generalize zaq s (4*r)=a at *;generalize zaq s (4*r+1)=b at *;generalize zaq s (4*r+2)=c at *;generalize zaq s (4*r+3)=d at *;rw[show a % 4294967296=a by omega,show b % 4294967296*256 % 4294967296=b*256 by omega,show c % 4294967296*65536 % 4294967296=c*65536 by omega,show d % 4294967296*16777216 % 4294967296=d*16777216 by omega];rw[u32_or8 a (b*256) (by omega) (by omega) (by omega) (by omega) (by omega),u32_or16 (a+b*256) (c*65536) (by omega) (by omega) (by omega) (by omega) (by omega),u32_or24 (a+b*256+c*65536) (d*16777216) (by omega) (by omega) (by omega) (by omega) (by omega)];unfold wrap64 wrap32;split <;> omega
theorem zq9 {s:ByteArray}{r:Nat}(h:4*r+4<=s.size):zbc s (4*r) 4=s32 s r:=by
 rw[zqM];unfold zbc;rw[if_neg (by decide),if_neg (by decide),if_pos rfl,zgs h];obtain⟨h1,h2,h3⟩:=zfP s (4*r) 4 (by omega);rw[h1];generalize zeS s (4*r) 4=x at *;have h3:x<4294967296:=h3;rw[IntKind.wrap_u64];unfold wrap64;split <;> omega
theorem zoy {s:ByteArray}{a k:Nat}(hk:k=1\/k=2\/k=4\/k=8)(h:a+k<=s.size)(hb:zbn s a k<4096)(h1:k=1->zbn s a k<128):zbc s a k=zbn s a k:=by
 obtain⟨h2,-⟩:=zd4 s a k;unfold zbc;rw[zgs h];generalize zbn s a k=x at *;simp only[IntKind.wrap_u64];rcases hk with rfl|rfl|rfl|rfl
 ·have:=h1 rfl;rw[if_pos rfl];unfold wrap64;omega
 ·rw[if_neg (by decide),if_pos rfl];unfold wrap64;omega
 ·rw[if_neg (by decide),if_neg (by decide),if_pos rfl];unfold wrap64;omega
 ·rw[if_neg (by decide),if_neg (by decide),if_neg (by decide)];unfold wrap64;omega
theorem zns {f:Fd}{d:Dt}{r m:Nat}(hm:zaK f.ix=m)(h1:1<=m)(hix:3<=f.ix/\f.ix<=10)(hd:0<d.dict.length)(hl:d.dict[0].len<=4096)(hs:(r+1)*m<=(buf d 1).size)(hi:0<=zcG f d (buf d 1) r) :
  IntKind.u64.wrap (zcv f.ix (buf d 1) r)=zcG f d (buf d 1) r/\zcG f d (buf d 1) r<d.dict[0].len:=by
 have he:=zhe (f:=f) (d:=d) (s:=buf d 1) (r:=r) hm hd;rw[he] at hi ⊢;have hc:=zhq hm h1;have hs':r*m+m<=(buf d 1).size:=by rw[Nat.succ_mul] at hs;exact hs
 by_cases hq:(f.ix<=6/\127<zaq (buf d 1) (r*m+(m-1)))\/(if d.dict[0].len<0 then(0:Int) else d.dict[0].len)<=zbn (buf d 1) (r*m) m
 ·rw[if_pos hq] at hi;omega
 rw[if_neg hq];have hq1:f.ix<=6->zaq (buf d 1) (r*m+(m-1))<=127:=fun h=>by
  apply Int.not_lt.1;intro h2;exact hq (.inl ⟨h,h2⟩)
 have hq2:zbn (buf d 1) (r*m) m<(if d.dict[0].len<0 then(0:Int) else d.dict[0].len):=Int.not_le.1 (fun h=>hq (.inr h));obtain⟨hb,-⟩:=zd4 (buf d 1) (r*m) m;have hlt:zbn (buf d 1) (r*m) m<d.dict[0].len:=by split at hq2 <;> omega
 refine⟨?_,hlt⟩;unfold zcv;rw[hm,Int.toNat_natCast];by_cases h6:3<=f.ix/\f.ix<=6
 ·rw[if_pos h6,zoy hc hs' (by omega) (fun e=>by
   subst e;rw[zq8];have:=hq1 h6.2;simp only[Nat.sub_self,Nat.add_zero] at this;omega),IntKind.wrap_u64]
  omega
 ·rw[if_neg h6,zgs hs',IntKind.wrap_u64];unfold wrap64;omega
mutual
def wtV:Vl->Int
 | .mk _ _ tx kids=>16+tx.size+zaA kids
def zaA:List Vl->Int
 | []=>0
 | v :: r=>wtV v+zaA r
end
mutual
theorem zel:∀v:Vl,16<=wtV v
 | .mk nl num tx kids=>by
  have:=zbQ kids;rw[wtV];omega
theorem zbQ:∀l:List Vl,0<=zaA l
 | []=>by rw[zaA];omega
 | v :: r=>by
  have:=zel v;have:=zbQ r;rw[zaA];omega
end
theorem zdF:∀l m:List Vl,zaA (l ++ m)=zaA l+zaA m
 | [],m=>by rw[List.nil_append,zaA];omega
 | v :: r,m=>by rw[List.cons_append,zaA,zaA,zdF r m];omega
mutual
def zcl:Fd->Bool
 | .mk _ nl k _ _ _ kids=>if k=20 then zkE kids else nl && decide (k≠18)
def zkE:List Fd->Bool
 | []=>false
 | f :: _=>zcl f
end
theorem zfy (f:Fd):zcl f=if f.k=20 then zkE f.kids else f.nl && decide (f.k≠18):=by
 cases f with
 | mk nm nl k wd id ix kids=>rw[zcl];rfl
def zdm (k n:Int):Bool:=
 if k=3 then decide (-128<=n) && decide (n<128) else if k=4 then decide (-32768<=n) && decide (n<32768) else if k=5 then decide (-2147483648<=n) && decide (n<2147483648)
 else if k=7 then decide (0<=n) && decide (n<256) else if k=8 then decide (0<=n) && decide (n<65536) else if k=9 then decide (0<=n) && decide (n<4294967296) else decide (k=6) || decide (k=10)
def zan (f:Fd)(i:Nat):Fd:=f.kids[i]?.getD endsF
def okN:Nat->Fd->Vl->Bool
 | 0,_,_=>false
 | m+1,f,v=>
  if 4096<v.kids.length then false
  else if v.nl=true then decide (v.num=0) && (decide (v.tx.size=0) && (decide (v.kids.length=0) && zcl f))
  else if f.k=19\/f.k=20 then okN m (zan f 0) v
  else if f.k=18 then decide (v.tx.size=0) && (decide (0<=v.num) && (decide (v.num<f.kids.length) && (decide (v.kids.length=1) && v.kids.all (okN m (zan f v.num.toNat)))))
  else if f.k=15\/f.k=16 then decide (v.num=0) && (decide (v.tx.size=0) && ((decide (f.k=15) || decide ((v.kids.length:Int)=f.wd)) && v.kids.all (okN m (zan f 0))))
  else if f.k=17 then decide (v.num=0) && (decide (v.tx.size=0) && (decide (v.kids.length=f.kids.length) && (List.range v.kids.length).all fun i=>okN m (zan f i) ((v.kids[i]?).getD v)))
  else if f.k=12\/f.k=13\/f.k=14 then decide (v.num=0) && (decide (v.kids.length=0) && ((decide (f.k≠12) || Lib.validD v.tx.data.toList) && (decide (f.k≠14) || decide ((v.tx.size:Int)=f.wd))))
  else decide (v.tx.size=0) && (decide (v.kids.length=0) && (if f.k=2 then decide (v.num=0) || decide (v.num=1) else if f.k=11 then true else zdm f.k v.num))
def zhX (g:Int->Rd)(v:Vl):Prop:=∀x,wtV v<=x->g x=some (v,x-wtV v)
theorem zf2 {P:Nat->Vl->Prop}:∀n,(∀i,i<n->∃v,P i v)->∃l:List Vl,l.length=n/\∀i (h:i<l.length),P i l[i]
 | 0,_=>⟨[],rfl,fun i h=>by simp at h⟩
 | n+1,h=>by
  obtain⟨l,h1,h2⟩:=zf2 n (fun i hi=>h i (by omega));obtain⟨v,hv⟩:=h n (by omega);refine⟨l ++ [v],by simp[h1],fun i hi=>?_⟩;by_cases e:i<l.length
  ·rw[List.getElem_append_left e];exact h2 i e
  ·have:i=n:=by simp at hi;omega
   subst this;rw[List.getElem_append_right (by omega)];simpa [h1] using hv
theorem zf3 {g:Nat->Int->Rd}:∀(l:List Vl) (p:Nat),(∀i (h:i<l.length),zhX (g (p+i)) l[i])->∀acc x,zaA l<=x->zbD g l.length p acc x=some (acc ++ l,x-zaA l)
 | [],p,h,acc,x,hx=>by
  show zbD g 0 p acc x=_;unfold zbD;rw[List.append_nil,zaA];simp
 | v :: r,p,h,acc,x,hx=>by
  rw[zaA] at hx;have h1:=zel v;have h2:=zbQ r;have h0:=h 0 (by simp) x (show wtV v<=x by omega);show zbD g (r.length+1) p acc x=_;unfold zbD;rw[show p=p+0 by omega,h0];show zbD g r.length (p+0+1) (acc ++ [v]) (x-wtV v)=_;rw[zf3 r (p+0+1) (fun i hi=>by
   have:=h (i+1) (by simpa using hi)
   rwa [show p+(i+1)=p+0+1+i by omega] at this) (acc ++ [v]) (x-wtV v) (by omega),zaA]
  rw[List.append_assoc]
  congr 2
  omega
theorem ziB (s:ByteArray)(a:Nat){n:Nat}(h:n<=8):0<=zbA s a n/\zbA s a n<2 ^ (8*n):=by
 unfold zbA;split
 ·obtain⟨h1,h2,h3⟩:=zfP s a n h;rw[h1];exact⟨h2,h3⟩
 ·exact⟨Int.le_refl _,Int.pow_pos (by decide)⟩
theorem zoz (k:Int)(s:ByteArray)(r:Nat)(h:3<=k/\k<=10):zdm k (zcv k s r)=true:=by
 have:k=3\/k=4\/k=5\/k=6\/k=7\/k=8\/k=9\/k=10:=by omega
 rcases this with rfl|rfl|rfl|rfl|rfl|rfl|rfl|rfl
 ·show(decide (-128<=zbc s (r*1) 1) && decide (zbc s (r*1) 1<128))=true;unfold zbc;rw[if_pos rfl];generalize IntKind.u64.wrap _=y;simp only[Bool.and_eq_true,decide_eq_true_eq];unfold wrap64;omega
 ·show(decide (-32768<=zbc s (r*2) 2) && decide (zbc s (r*2) 2<32768))=true;unfold zbc;rw[if_neg (by decide),if_pos rfl];generalize IntKind.u64.wrap _=y;simp only[Bool.and_eq_true,decide_eq_true_eq];unfold wrap64;omega
 ·show(decide (-2147483648<=zbc s (r*4) 4) && decide (zbc s (r*4) 4<2147483648))=true;unfold zbc;rw[if_neg (by decide),if_neg (by decide),if_pos rfl];generalize IntKind.u64.wrap _=y;simp only[Bool.and_eq_true,decide_eq_true_eq];unfold wrap64;omega
 ·rfl
 ·show(decide (0<=wrap64 (zbA s (r*1) 1)) && decide (wrap64 (zbA s (r*1) 1)<256))=true;have h:=ziB s (r*1) (n:=1) (by omega);generalize zbA s (r*1) 1=x at *;have h2:x<256:=h.2;simp only[Bool.and_eq_true,decide_eq_true_eq];unfold wrap64;omega
 ·show(decide (0<=wrap64 (zbA s (r*2) 2)) && decide (wrap64 (zbA s (r*2) 2)<65536))=true;have h:=ziB s (r*2) (n:=2) (by omega);generalize zbA s (r*2) 2=x at *;have h2:x<65536:=h.2;simp only[Bool.and_eq_true,decide_eq_true_eq];unfold wrap64;omega
 ·show(decide (0<=wrap64 (zbA s (r*4) 4)) && decide (wrap64 (zbA s (r*4) 4)<4294967296))=true;have h:=ziB s (r*4) (n:=4) (by omega);generalize zbA s (r*4) 4=x at *;have h2:x<4294967296:=h.2;simp only[Bool.and_eq_true,decide_eq_true_eq];unfold wrap64;omega
 ·rfl
theorem zhu:∀(l:List Int) (a:Int),0<=a->(∀x ∈ l,0<=x)->a+l.sum<9223372036854775808->za9 a l=a+l.sum
 | [],a,h0,_,_=>by show a=a+0;omega
 | x :: r,a,h0,h,hs=>by
  rw[List.sum_cons] at hs;have hx:=h x (by simp);have hr:0<=r.sum:=by
   have:∀l:List Int,(∀x ∈ l,0<=x)->0<=l.sum:=by
    intro l hl
    induction l with
    | nil=>exact Int.le_refl _
    | cons y t ih=>rw[List.sum_cons];have:=hl y (by simp);have:=ih (fun z hz=>hl z (by simp[hz]));omega
   exact this r (fun z hz=>h z (by simp[hz]))
  have e:wrap64 (a+x)=a+x:=by unfold wrap64;omega
  show za9 (wrap64 (a+x)) r=_;rw[e,zhu r (a+x) (by omega) (fun z hz=>h z (by simp[hz])) (by omega),List.sum_cons];omega
theorem zhv:∀(l:List Int) (B:Int),(∀x ∈ l,0<=x/\x<=B)->0<=l.sum/\l.sum<=l.length*B
 | [],B,_=>by simp
 | x :: r,B,h=>by
  obtain⟨h1,h2⟩:=zhv r B (fun z hz=>h z (by simp[hz]));have:=h x (by simp);rw[List.sum_cons,List.length_cons];have e:((r.length+1:Nat):Int)*B=r.length*B+B:=by rw[Int.natCast_add,Int.add_mul];simp
  rw[e];omega
theorem zmT:∀(l:List Int),(∀x ∈ l,0<=x)->∀x ∈ l,x<=l.sum
 | y :: r,h,x,hx=>by
  have hr:0<=r.sum:=by
   have:∀l:List Int,(∀x ∈ l,0<=x)->0<=l.sum:=by
    intro l hl
    induction l with
    | nil=>exact Int.le_refl _
    | cons y t ih=>rw[List.sum_cons];have:=hl y (by simp);have:=ih (fun z hz=>hl z (by simp[hz]));omega
   exact this r (fun z hz=>h z (by simp[hz]))
  have hy:=h y (by simp);rw[List.sum_cons];rcases List.mem_cons.1 hx with e|e
  ·omega
  ·have:=zmT r (fun z hz=>h z (by simp[hz])) x e;omega
theorem ziC:∀l:List Vl,zaA l=(l.map wtV).sum
 | []=>by rw[zaA];rfl
 | v :: r=>by rw[zaA,List.map_cons,List.sum_cons,ziC r]
theorem zhY {B:Int}:∀l:List Vl,(∀v ∈ l,wtV v<=B)->zaA l<=l.length*B:=fun l h=>by
 rw[ziC];have:=(zhv (l.map wtV) B (fun x hx=>by
  obtain⟨v,hv,rfl⟩:=List.mem_map.1 hx;exact⟨by have:=zel v;omega,h v hv⟩)).2
 rwa [List.length_map] at this
theorem zif {l:List Vl}{a:Int}(ha:0<=a)(hb:a+zaA l<9223372036854775808):za9 a (l.map wtV)=a+zaA l:=by
 rw[ziC] at hb ⊢;exact zhu _ _ ha (fun x hx=>by
  obtain⟨v,hv,rfl⟩:=List.mem_map.1 hx;have:=zel v;omega) hb
theorem znt {ws:List Int}{A Z:Nat}{l:List Vl}(hl:l.length=Z-A)(hZ:Z<=ws.length)(h:∀i (hi:i<l.length),ws[A+i]?=some (wtV l[i])):zco ws A Z=l.map wtV:=by
 unfold zco;apply List.ext_getElem
 ·rw[List.length_take,List.length_drop,List.length_map];omega
 ·intro i h1 h2;rw[List.length_map] at h2;have h3:=h i h2;obtain⟨h4,h5⟩:=List.getElem?_eq_some_iff.1 h3;rw[List.getElem_take,List.getElem_drop,h5,List.getElem_map]
theorem zg2 {ws:List (List Int)}{r:Nat}{l:List Vl}(hl:∀k (hk:k<l.length),at2 ws k r=wtV l[k]/\wtV l[k]<=4194304):∀k,k<=l.length->k<=4096->zcM ws r k=16+zaA (l.take k)
 | 0,_,_=>by rw[zcM,List.take_zero,zaA];omega
 | k+1,h,h2=>by
  obtain⟨h3,h4⟩:=hl k (by omega);have ih:=zg2 hl k (by omega) (by omega);have hb:=zhY (B:=4194304) (l.take k) (fun v hv=>by
   obtain⟨i,hi,rfl⟩:=List.getElem_of_mem hv;rw[List.getElem_take];exact(hl i (by rw[List.length_take] at hi;omega)).2)
  have hp:=zbQ (l.take k);have hpv:=zel l[k];rw[List.length_take] at hb;have hmk:((min k l.length:Nat):Int)<=4096:=by omega
  rw[zcM,ih,h3,List.take_succ_eq_append_getElem (by omega),zdF,zaA,zaA];have:zaA (l.take k)<=4096*4194304:=Int.le_trans hb (Int.mul_le_mul_of_nonneg_right hmk (by decide));unfold wrap64;omega
theorem zlo {s:ByteArray}{eo r:Nat}:∀(m run:Nat),(∃j,run<=j/\j<run+m/\(r:Int)<s32 s (eo+j)) ->
  run<=adv s eo r m run/\adv s eo r m run<run+m/\(r:Int)<s32 s (eo+adv s eo r m run)/\∀j,run<=j->j<adv s eo r m run->s32 s (eo+j)<=r
 | 0,run,⟨j,h1,h2,_⟩=>by omega
 | m+1,run,⟨j,h1,h2,h3⟩=>by
  by_cases h:s32 s (eo+run)<=(r:Int)
  ·have hj:run≠j:=fun e=>by subst e;omega
   obtain⟨g1,g2,g3,g4⟩:=zlo m (run+1) ⟨j,by omega,by omega,h3⟩;rw[adv,if_pos h];refine⟨by omega,by omega,g3,fun i hi1 hi2=>?_⟩;by_cases e:i=run
   ·rw[e];exact h
   ·exact g4 i (by omega) hi2
  ·rw[adv,if_neg h];exact⟨by omega,by omega,Int.not_le.1 h,fun i hi1 hi2=>by omega⟩
theorem zi5 {s:ByteArray}{o A:Nat}{r:Int}:∀(n i:Nat),i<=A->A<i+n->r<zbc s (4*(o+A)) 4->(∀j,i<=j->j<A->¬r<zbc s (4*(o+j)) 4)->zdD s o r n i=some A
 | 0,i,h1,h2,_,_=>by omega
 | n+1,i,h1,h2,h3,h4=>by
  unfold zdD;by_cases e:i=A
  ·subst e;rw[if_pos h3]
  ·rw[if_neg (h4 i (Nat.le_refl _) (by omega))];exact zi5 n (i+1) (by omega) (by omega) h3 (fun j hj1 hj2=>h4 j (by omega) hj2)
theorem zj7 {k:Int}{bufs:List ByteArray}{o:Nat}:∀ {n i:Nat},i<n->zaF k bufs (o+i)=true->0<zcQ k bufs o n
 | n+1,i,h,hn=>by
  unfold zcQ;by_cases e:i=n
  ·subst e;rw[if_pos hn];omega
  ·have:=zj7 (k:=k) (bufs:=bufs) (o:=o) (n:=n) (i:=i) (by omega) hn;omega
theorem zjC {f:Fd}{d:Dt}(h:zaP f d=0):zc7 f d d.len.toNat d.off.toNat=0:=by
 unfold zaP at h;split at h
 ·omega
 split at h
 ·omega
 split at h
 ·omega
 split at h
 ·omega
 split at h
 ·omega
 split at h
 ·omega
 exact h
theorem zcc (nl:Bool)(num:Int)(tx:ByteArray):wtV (.mk nl num tx [])=16+tx.size:=by rw[wtV,zaA];omega
theorem zeT (nl:Bool)(num:Int)(l:List Vl):wtV (.mk nl num ⟨#[]⟩ l)=16+zaA l:=by
 rw[wtV];show 16+((0:Nat):Int)+zaA l=_;omega
theorem zpI (l:List Int):zco l 0 0=[]:=by unfold zco;simp
theorem zda {m:Nat}{f:Fd}{v:Vl}(h:okN m f v=true):v.kids.length<=4096:=by
 cases m with
 | zero=>cases h
 | succ m=>
  unfold okN at h;split at h
  ·cases h
  ·omega
theorem ziD {m:Nat}{f:Fd}{v:Vl}(h:okN m f v=true)(hn:v.nl=true):v.num=0/\v.tx.size=0/\v.kids.length=0/\zcl f=true:=by
 cases m with
 | zero=>cases h
 | succ m=>
  unfold okN at h;by_cases hh:4096<v.kids.length
  ·rw[if_pos hh] at h;cases h
  ·rw[if_neg hh,if_pos hn] at h;simpa using h
theorem zgE {f:Fd}{i:Nat}(h:i<f.kids.length):zan f i ∈ f.kids:=by
 unfold zan;rw[List.getElem?_eq_getElem h];exact List.getElem_mem h
theorem zfc {f:Fd}{i m:Nat}(h:i<f.kids.length)(hm:zau f<=m+1):zau (zan f i)<=m:=by
 have:=zd6 (zgE h);rw[zcH] at hm;omega
theorem zcU {f:Fd}(h:f.k≠20)(i:Nat):zat f i=zan f i:=by
 unfold zat zan;rw[if_neg h]
theorem zoA {f:Fd}(h:zaU f=true):f.kids.length<=32:=by
 unfold zaU at h;simp only[Bool.and_eq_true,decide_eq_true_eq] at h;have h2:=h.2.2.2.2;unfold zbH at h2;split at h2
 ·omega
 ·split at h2 <;> omega
def zfd (rec:RdF)(f:Fd)(d:Dt)(ws:List (List Int)):Prop:=∀k (hk:k<(zac d).length) (j:Nat),(j:Int)<(zac d)[k].len->∃v,zhX (zdE rec f d k j) v/\at2 ws k j=wtV v/\wtV v<=4194304/\∀m,zau (zat f k)<=m->okN m (zat f k) v=true
def zeA (n:Nat)(f:Fd)(d:Dt)(r:Nat)(x:Int):Prop:=∃v,zhX (zay (n+1) f d r) v/\x=wtV v/\wtV v<=68719476736/\∀m,zau f<=m->okN m f v=true
theorem zcy {f:Fd}{m:Nat}(h:zau f<=m):∃m',m=m'+1:=⟨m-1,by rw[zcH] at h;omega⟩
theorem zpJ {n:Nat}{f:Fd}{d:Dt}{r:Nat}(hn:zaF f.k d.bufs r=true)(hl:zcl f=true):zeA n f d r 16:=by
 refine⟨.mk true 0 ⟨#[]⟩ [],fun x hx=>?_,by rw[zcc];rfl,by rw[zcc];decide,fun m hm=>?_⟩
 ·rw[zcc] at hx ⊢;have hx:16<=x:=hx;unfold zay;rw[if_pos hn,if_neg (by omega)];rfl
 ·obtain⟨m',rfl⟩:=zcy hm;unfold okN;rw[if_neg (by show ¬4096<0;omega),if_pos (show(Vl.mk true 0 ⟨#[]⟩ []).nl=true from rfl),hl];rfl
theorem zmU {f:Fd}{d:Dt}{ws:List (List Int)}{r run:Nat}(hn:zaF f.k d.bufs r=false):(zcu f d ws r run).1=za9 (zbC f d ws r (zce f d r run)) (zco ((ws[0]?).getD []) (zbd f d r).1 (zbd f d r).2):=by
 unfold zcu;rw[if_neg (by rw[hn];decide)]
theorem zdU {f:Fd}{d:Dt}{ws:List (List Int)}{r run:Nat}(hn:zaF f.k d.bufs r=false)(h15:f.k≠15)(h16:f.k≠16):(zcu f d ws r run).1=zbC f d ws r (zce f d r run):=by
 rw[zmU hn];unfold zbd;rw[if_neg h15,if_neg h16];show za9 _ (zco _ 0 0)=_;rw[zpI];rfl
theorem zdG {n:Nat}{f:Fd}{d:Dt}{r:Nat}{x:Int}(hn:zaF f.k d.bufs r=false):zay (n+1) f d r x=zeQ (zay n) f d r x:=by
 rw[zay,if_neg (by rw[hn];decide)]
theorem zpK {n:Nat}{f:Fd}{d:Dt}{nn o k:Nat}{ws:List (List Int)}{run:Nat}(F:Fit f d nn o)(hk:f.k=2\/f.k=14\/(3<=f.k/\f.k<=11))(hlt:k<nn)(hn:zaF f.k d.bufs (o+k)=false):zeA n f d (o+k) (zcu f d ws (o+k) run).1:=by
 rw[zdU hn (by omega) (by omega)];have hb:zbC f d ws (o+k) (zce f d (o+k) run)=if f.k=14 then wrap64 (16+f.wd) else 16:=by
  unfold zbC;split
  ·rfl
  ·rw[if_neg (by omega),if_neg (by omega),if_neg (by omega),if_neg (by omega),if_neg (by omega)]
 rw[hb];obtain⟨hbl,hwd⟩:=zhr F hk;have fam:∀x,zay (n+1) f d (o+k) x=flatV f d (o+k) x:=fun x=>by
  rw[zdG hn];unfold zeQ;rw[if_neg (by omega),if_neg (by omega),if_neg (by omega),if_neg (by omega),if_neg (by omega),if_neg (by omega)]
 by_cases h2:f.k=2
 ·rw[if_neg (by omega)];obtain⟨u,hu⟩:=nm (wrap64 (bits BinOp.and IntKind.u8 (zaq (buf d 1) ((o+k) / 8) / 2 ^ ((o+k) % 8)) 1));have hu01:u=0\/u=1:=by
   rw[hu];rcases zq4 (za1 (buf d 1) ((o+k) / 8)) ((o+k) % 8) with e|e <;> rw[e]
   ·left;unfold wrap64;decide
   ·right;unfold wrap64;decide
  refine⟨.mk false u ⟨#[]⟩ [],fun x hx=>?_,by rw[zcc];rfl,by rw[zcc];decide,fun m hm=>?_⟩
  ·rw[zcc] at hx ⊢;have hx:16<=x:=hx;rw[fam];unfold flatV;rw[if_neg (by omega),if_pos h2,<-hu];rfl
  ·obtain⟨m',rfl⟩:=zcy hm;unfold okN;rw[if_neg (by show ¬4096<0;omega),if_neg (by show ¬false=true;decide),if_neg (by omega),if_neg (by omega),if_neg (by omega),if_neg (by omega),if_neg (by omega),if_pos h2];show(decide ((0:Nat)=0) && (decide ((0:Nat)=0) && (decide (u=0) || decide (u=1))))=true;rcases hu01 with e|e <;> rw[e] <;> decide
 by_cases h14:f.k=14
 ·obtain⟨hw1,hw2⟩:=hwd h14;rw[if_pos h14];have hsm:=F.small 1 hbl;have hneed:zaB f 1 (nn+o) d.bufs[1].size=((nn+o:Nat):Int)*f.wd:=by
   unfold zaB;rw[if_neg (by omega),if_neg (by omega),if_neg (by omega),if_neg (by omega)];unfold zbK;rw[if_neg (by rw[F.may];decide),if_pos h14]
  rw[hneed] at hsm;obtain⟨mw,hmw⟩:∃mw:Nat,f.wd=mw:=⟨f.wd.toNat,by omega⟩;have hbuf:=zb7 hbl;have hin:(o+k)*mw+mw<=(buf d 1).size:=by
   rw[hbuf];rw[hmw,<-Int.natCast_mul] at hsm;have h1:(o+k+1)*mw<=(nn+o)*mw:=Nat.mul_le_mul_right mw (by omega);rw[Nat.succ_mul] at h1;omega
  have hsz:(zbB (buf d 1) ((o+k)*mw) mw).size=mw:=by
   rw[zgv hin];show(List.toArray _).size=mw;simp;have:(buf d 1).size=(buf d 1).data.size:=rfl;omega
  have hw:wrap64 (16+f.wd)=16+f.wd:=by unfold wrap64;omega
  refine⟨.mk false 0 (zbB (buf d 1) ((o+k)*mw) mw) [],fun x hx=>?_,by rw[zcc,hsz,hw,hmw],by rw[zcc,hsz];omega,fun m hm=>?_⟩
  ·rw[zcc,hsz] at hx ⊢;rw[fam];unfold flatV;rw[if_neg (by omega),if_neg h2,if_pos h14,hmw,if_neg (by omega),Int.toNat_natCast]
   congr 2
   omega
  ·obtain⟨m',rfl⟩:=zcy hm;unfold okN;rw[if_neg (by show ¬4096<0;omega),if_neg (by show ¬false=true;decide),if_neg (by omega),if_neg (by omega),if_neg (by omega),if_neg (by omega),if_pos (by omega)];show(decide ((0:Int)=0) && (decide ((0:Nat)=0) && ((decide (f.k≠12) || _) && (decide (f.k≠14) || decide (((zbB (buf d 1) ((o+k)*mw) mw).size:Int)=f.wd)))))=true;rw[hsz,hmw];simp[h14]
 ·have h311:3<=f.k/\f.k<=11:=by omega
  rw[if_neg h14];refine⟨.mk false (zcv f.k (buf d 1) (o+k)) ⟨#[]⟩ [],fun x hx=>?_,by rw[zcc];rfl,by rw[zcc];decide,fun m hm=>?_⟩
  ·rw[zcc] at hx ⊢;have hx:16<=x:=hx;rw[fam];unfold flatV;rw[if_neg (by omega),if_neg h2,if_neg h14];rfl
  ·obtain⟨m',rfl⟩:=zcy hm;unfold okN;rw[if_neg (by show ¬4096<0;omega),if_neg (by show ¬false=true;decide),if_neg (by omega),if_neg (by omega),if_neg (by omega),if_neg (by omega),if_neg (by omega),if_neg h2];show(decide ((0:Nat)=0) && (decide ((0:Nat)=0) && (if f.k=11 then true else zdm f.k (zcv f.k (buf d 1) (o+k)))))=true;by_cases h11:f.k=11
   ·rw[if_pos h11];rfl
   ·rw[if_neg h11,zoz f.k (buf d 1) (o+k) (by omega)];rfl
theorem zhw {f:Fd}{d:Dt}{nn o:Nat}(F:Fit f d nn o){r:Nat}(h:∀h1:1<d.bufs.length,4*r+4<=d.bufs[1].size)(hb:1<d.bufs.length):zbc (buf d 1) (4*r) 4=s32 (buf d 1) r:=zq9 (by rw[zb7 hb];exact h hb)
theorem zpL {n:Nat}{f:Fd}{d:Dt}{nn o k:Nat}{ws:List (List Int)}{run:Nat}(F:Fit f d nn o)(hk:f.k=12\/f.k=13)(hr:zaH f d=0)(hlt:k<nn)(hn:zaF f.k d.bufs (o+k)=false):zeA n f d (o+k) (zcu f d ws (o+k) run).1:=by
 rw[zdU hn (by omega) (by omega)];obtain⟨hbl,hsz⟩:=F.text hk;have hb1:1<d.bufs.length:=by omega
 have hb2:2<d.bufs.length:=by omega
 have hk15:f.k=12\/f.k=13\/f.k=15:=by omega
 have e0:=zhw F (r:=o+k) (fun h1=>by have:=hsz h1;omega) hb1;have e1:=zhw F (r:=o+(k+1)) (fun h1=>by have:=hsz h1;omega) hb1;obtain⟨o1,o2,o3⟩:=F.offs hk15 hr k hlt;have h15:¬f.k=15:=by rcases hk with h|h <;> rw[h] <;> decide
 have h14:¬f.k=14:=by rcases hk with h|h <;> rw[h] <;> decide
 have ht:zfw f d=((buf d 2).size:Int):=by unfold zfw;rw[if_neg h15];rfl
 rw[ht] at o3;have hb:zbC f d ws (o+k) (zce f d (o+k) run)=16+(s32 (buf d 1) (o+(k+1))-s32 (buf d 1) (o+k)):=by
  unfold zbC;rw[if_neg h14,if_pos hk];rfl
 rw[hb];have hbig:(buf d 2).size<=65536:=by rw[zb7 hb2];exact F.big 2 hb2
 have hu:f.k=12->Lib.validD (((buf d 2).extract (s32 (buf d 1) (o+k)).toNat (s32 (buf d 1) (o+(k+1))).toNat).data.toList)=true:=fun h12=>by
  rw[zgc (.inl h12)] at hr;unfold zct at hr;by_cases h0:zcq f d≠0
  ·rw[if_pos h0] at hr;exact absurd hr h0
  rw[if_neg h0,if_pos h12,F.len,Int.toNat_natCast] at hr;have:=zhV hr k hlt;unfold zhj at this;rw[F.off,Int.toNat_natCast] at this;by_cases hv:zaF f.k d.bufs (o+k)=true\/Lib.validD (((d.bufs[2]?).getD ByteArray.empty).extract (s32 ((d.bufs[1]?).getD ByteArray.empty) (o+k)).toNat (s32 ((d.bufs[1]?).getD ByteArray.empty) (o+(k+1))).toNat).data.toList=true
  ·rcases hv with hv|hv
   ·rw[hn] at hv;cases hv
   ·exact hv
  ·rw[if_neg hv] at this;exact absurd this (by decide)
 obtain⟨A,hA⟩:=Int.eq_ofNat_of_zero_le o1;obtain⟨Z,hZ⟩:=Int.eq_ofNat_of_zero_le (Int.le_trans o1 o2);rw[hA,hZ] at o2 hu ⊢;rw[hZ] at o3;rw[hA] at e0;rw[hZ] at e1;clear hA hZ o1 hb ht;simp only[Int.toNat_natCast] at hu;have hbt:zd3 (buf d 1) (o+k) ((buf d 2).size:Int)=some ((A:Int),(Z:Int)):=by
  unfold zd3;rw[show 4*(o+k)+4=4*(o+(k+1)) by omega,e0,e1];clear e0 e1;rw[if_neg (by omega)]
 clear e0 e1;have hin:A+(Z-A)<=(buf d 2).size:=by omega
 have hsz2:(zbB (buf d 2) A (Z-A)).size=Z-A:=by
  rw[zgv hin];show(List.toArray _).size=_;simp;have:(buf d 2).size=(buf d 2).data.size:=rfl;omega
 have hv2:f.k=12->Lib.validD (zbB (buf d 2) A (Z-A)).data.toList=true:=fun h12=>by
  have h:=hu h12;rw[zgv hin];have e:((buf d 2).extract A Z).data.toList=((buf d 2).data.toList.drop A).take (Z-A):=by
   rw[ByteArray.data_extract,Array.toList_extract]
  rw[e] at h;exact h
 refine⟨.mk false 0 (zbB (buf d 2) A (Z-A)) [],fun x hx=>?_,by rw[zcc,hsz2];omega,by rw[zcc,hsz2];omega,fun m hm=>?_⟩
 ·rw[zcc,hsz2] at hx ⊢;rw[zdG hn];unfold zeQ;rw[if_pos hk];unfold zgA;rw[hbt];simp only;rw[if_neg (by omega),show((A:Int)).toNat=A from Int.toNat_natCast A,show((Z:Int)-(A:Int)).toNat=Z-A by omega,if_neg (fun e=>by rw[hv2 e.1] at e;cases e.2)]
  congr 2
  omega
 ·obtain⟨m',rfl⟩:=zcy hm;unfold okN;rw[if_neg (by show ¬4096<0;omega),if_neg (by show ¬false=true;decide),if_neg (by omega),if_neg (by omega),if_neg (by omega),if_neg (by omega),if_pos (by omega)];show(decide ((0:Int)=0) && (decide ((0:Nat)=0) && ((decide (f.k≠12) || Lib.validD (zbB (buf d 2) A (Z-A)).data.toList) && (decide (f.k≠14) || _))))=true;by_cases h12:f.k=12
  ·rw[hv2 h12];simp[h12]
  ·have:f.k=13:=by omega
   simp[this]
theorem zpM {ws:List (List Int)}{i j:Nat}{x:Int}(hi:i<ws.length)(hj:j<ws[i].length)(h:at2 ws i j=x):((ws[i]?).getD [])[j]?=some x:=by
 rw[List.getElem?_eq_getElem hi,Option.getD_some,List.getElem?_eq_getElem hj,<-h,zgd hi hj]
theorem zoB {n:Nat}{f:Fd}{d:Dt}{nn o k:Nat}{ws:List (List Int)}{run:Nat}(F:Fit f d nn o)(W:Wd d ws)(hP:zfd (zay n) f d ws)(hL:∀k (hk:k<(zac d).length),(zac d)[k].len<=4096)(hk:f.k=15\/f.k=16)(hr:zaH f d=0)(hlt:k<nn)(hn:zaF f.k d.bufs (o+k)=false):zeA n f d (o+k) (zcu f d ws (o+k) run).1:=by
 rw[zmU hn];have hb:zbC f d ws (o+k) (zce f d (o+k) run)=16:=by
  unfold zbC;rw[if_neg (by omega),if_neg (by omega),if_neg (by omega),if_neg (by omega),if_neg (by omega),if_neg (by omega)]
 rw[hb];have hone:=zaW (zaE F.may).1 (by omega:f.k=15\/f.k=16\/f.k=19\/f.k=20);have hmain:∃h0:0<ws.length,∃A Z:Nat,A<=Z/\Z<=ws[0].length/\zbd f d (o+k)=(A,Z)/\zcT f d (o+k)=some ((A:Int),(Z:Int))/\(f.k=16->((Z-A:Nat):Int)=f.wd):=by
  by_cases h15:f.k=15
  ·obtain⟨h0,A,Z,hA,hZ,hAZ,hZw⟩:=F.items15 W h15 hr k hlt;obtain⟨hbl,hkl,hsz⟩:=F.list h15;have hrr:zbd f d (o+k)=(A,Z):=by
    unfold zbd;rw[if_pos h15,hA,Nat.add_assoc,hZ,Int.toNat_natCast,Int.toNat_natCast]
   have HA:=zh hA;have HZ:=zh hZ;clear hA hZ;have hb1:1<d.bufs.length:=by omega
   have e0:=zhw F (r:=o+k) (fun h1=>by have:=hsz h1;omega) hb1;rw[HA.o] at e0;have E0:=zh e0;clear e0;have e1:=zhw F (r:=o+(k+1)) (fun h1=>by have:=hsz h1;omega) hb1;rw[HZ.o] at e1;have E1:=zh e1;clear e1;refine⟨h0,A,Z,hAZ,hZw,hrr,?_,fun e=>by omega⟩
   ·unfold zcT;rw[if_neg (by omega)];have hp:=F.parts (by omega);have hk0:0<d.kids.length:=by omega
    have hw:=W.eq 0 h0 (by rw[hp];exact hk0);simp only[hp] at hw;have hm:((d.kids[0]?).map Dt.len).getD 0=(ws[0].length:Int):=by rw[List.getElem?_eq_getElem hk0,hw];rfl
    rw[hm];show zd3 (buf d 1) (o+k) _=_;unfold zd3;rw[show 4*(o+k)+4=4*(o+(k+1)) by omega,E0.o,E1.o,if_neg (by omega)]
  ·have h16:f.k=16:=by omega
   obtain⟨h0,m,hm,h1m,h64,hle⟩:=F.items16 W h16 k hlt;refine⟨h0,(o+k)*m,(o+k+1)*m,Nat.mul_le_mul_right m (by omega),hle,?_,?_,fun _=>?_⟩
   ·unfold zbd;rw[if_neg h15,if_pos h16,hm,Int.toNat_natCast]
   ·unfold zcT;rw[if_pos h16,hm]
    congr 2
   ·rw[hm,Nat.succ_mul];congr 1;omega
 obtain⟨h0,A,Z,hAZ,hZw,hrng,hit,h16w⟩:=hmain;have hp0:0<(zac d).length:=by rw[<-W.n];exact h0
 have hlen:=W.eq 0 h0 hp0;have hl4:=hL 0 hp0;obtain⟨vs,hvl,hvs⟩:=zf2 (P:=fun i v=>zhX (zdE (zay n) f d 0 (A+i)) v/\at2 ws 0 (A+i)=wtV v/\wtV v<=4194304/\∀m,zau (zat f 0)<=m->okN m (zat f 0) v=true) (Z-A) (fun i hi=>hP 0 hp0 (A+i) (by rw[<-hlen];omega));have hwl:=zhY (B:=4194304) vs (fun v hv=>by
  obtain⟨i,hi,rfl⟩:=List.getElem_of_mem hv;exact(hvs i hi).2.2.1)
 have hvl4:(vs.length:Int)<=4096:=by omega
 have hsum:zaA vs<=4096*4194304:=Int.le_trans hwl (Int.mul_le_mul_of_nonneg_right hvl4 (by decide));have hpos:=zbQ vs;rw[hrng];show zeA n f d (o+k) (za9 16 (zco ((ws[0]?).getD []) A Z));rw[znt hvl (by rw[List.getElem?_eq_getElem h0];exact hZw) (fun i hi=>zpM h0 (by omega) (hvs i hi).2.1),zif (by omega) (by omega)];refine⟨.mk false 0 ⟨#[]⟩ vs,fun x hx=>?_,by rw[zeT],by rw[zeT];omega,fun m hm=>?_⟩
 ·rw[zeT] at hx ⊢;rw[zdG hn];unfold zeQ;rw[if_neg (by omega),if_pos hk];unfold zgB;rw[hit];simp only;rw[if_neg (by omega),show((Z:Int)-(A:Int)).toNat=vs.length by omega,Int.toNat_natCast,zf3 vs A (fun i hi=>(hvs i hi).1) [] (x-16) (by omega)];show some (_,_)=some (_,_)
  congr 2
  omega
 ·obtain⟨m',rfl⟩:=zcy hm;unfold okN;have hkids:vs.all (okN m' (zan f 0))=true:=List.all_eq_true.2 fun v hv=>by
   obtain⟨i,hi,rfl⟩:=List.getElem_of_mem hv;have:=(hvs i hi).2.2.2 m' (by rw[zcU (by omega)];exact zfc (by omega) hm)
   rwa [zcU (by omega)] at this
  rw[if_neg (by show ¬4096<vs.length;omega),if_neg (by show ¬false=true;decide),if_neg (by omega),if_neg (by omega),if_pos hk];show(decide ((0:Int)=0) && (decide ((0:Nat)=0) && ((decide (f.k=15) || decide ((vs.length:Int)=f.wd)) && vs.all (okN m' (zan f 0)))))=true;rw[hkids,hvl];by_cases h15:f.k=15
  ·simp[h15]
  ·rw[h16w (by omega)];simp
theorem znu {n:Nat}{f:Fd}{d:Dt}{nn o k:Nat}{ws:List (List Int)}{run:Nat}(F:Fit f d nn o)(W:Wd d ws)(hP:zfd (zay n) f d ws)(hk:f.k=17)(hlt:k<nn)(hn:zaF f.k d.bufs (o+k)=false):zeA n f d (o+k) (zcu f d ws (o+k) run).1:=by
 rw[zdU hn (by omega) (by omega)];have hb:zbC f d ws (o+k) (zce f d (o+k) run)=zcM ws (o+k) ws.length:=by
  unfold zbC;rw[if_neg (by omega),if_neg (by omega),if_pos hk]
 rw[hb];have hp:=F.parts (by omega);have hnk:d.kids.length=f.kids.length:=by rw[F.nk,zde F.may (by omega) (by omega)]
 have h32:=zoA (zaE F.may).1;have hwn:ws.length=d.kids.length:=by rw[W.n,hp]
 obtain⟨vs,hvl,hvs⟩:=zf2 (P:=fun j v=>zhX (zdE (zay n) f d j (o+k)) v/\at2 ws j (o+k)=wtV v/\wtV v<=4194304/\∀m,zau (zat f j)<=m->okN m (zat f j) v=true) d.kids.length (fun j hj=>by
  have hj':j<ws.length:=by omega
  have hjp:j<(zac d).length:=by rw[hp];exact hj
  have:=F.items17 W hk k hlt j hj';exact hP j hjp (o+k) (by rw[<-W.eq j hj' hjp];omega))
 have hwl:=zhY (B:=4194304) vs (fun v hv=>by
  obtain⟨i,hi,rfl⟩:=List.getElem_of_mem hv;exact(hvs i hi).2.2.1)
 have hvl4:(vs.length:Int)<=32:=by omega
 have hsum:zaA vs<=32*4194304:=Int.le_trans hwl (Int.mul_le_mul_of_nonneg_right hvl4 (by decide));have hpos:=zbQ vs;rw[hwn,<-hvl,zg2 (l:=vs) (fun j hj=>⟨(hvs j hj).2.1,(hvs j hj).2.2.1⟩) vs.length (Nat.le_refl _) (by omega),List.take_length];refine⟨.mk false 0 ⟨#[]⟩ vs,fun x hx=>?_,by rw[zeT],by rw[zeT];omega,fun m hm=>?_⟩
 ·rw[zeT] at hx ⊢;rw[zdG hn];unfold zeQ;rw[if_neg (by omega),if_neg (by omega),if_pos hk];unfold zeP;rw[if_neg (by omega),<-hvl,zf3 vs 0 (fun i hi=>by rw[Nat.zero_add];exact(hvs i hi).1) [] (x-16) (by omega)];show some (_,_)=some (_,_)
  congr 2
  omega
 ·obtain⟨m',rfl⟩:=zcy hm;unfold okN;have hkids:((List.range vs.length).all fun i=>okN m' (zan f i) ((vs[i]?).getD (.mk false 0 ⟨#[]⟩ vs)))=true:=List.all_eq_true.2 fun i hi=>by
   have hi':i<vs.length:=List.mem_range.1 hi;have:=(hvs i hi').2.2.2 m' (by rw[zcU (by omega)];exact zfc (by omega) hm);rw[zcU (by omega)] at this;rw[List.getElem?_eq_getElem hi'];exact this
  rw[if_neg (by show ¬4096<vs.length;omega),if_neg (by show ¬false=true;decide),if_neg (by omega),if_neg (by omega),if_neg (by omega),if_pos hk];show(decide ((0:Int)=0) && (decide ((0:Nat)=0) && (decide (vs.length=f.kids.length) && (List.range vs.length).all fun i=>okN m' (zan f i) ((vs[i]?).getD (.mk false 0 ⟨#[]⟩ vs)))))=true;rw[hkids,hvl,hnk];simp
theorem znv {n:Nat}{f:Fd}{d:Dt}{nn o k:Nat}{ws:List (List Int)}{run:Nat}(F:Fit f d nn o)(W:Wd d ws)(hP:zfd (zay n) f d ws)(hk:f.k=18)(hr:zaH f d=0)(hlt:k<nn)(hn:zaF f.k d.bufs (o+k)=false):zeA n f d (o+k) (zcu f d ws (o+k) run).1:=by
 rw[zdU hn (by omega) (by omega)];have hb:zbC f d ws (o+k) (zce f d (o+k) run)=wrap64 (16+at2 ws (zaq (buf d 0) (o+k)).toNat (s32 (buf d 1) (o+k)).toNat):=by
  unfold zbC;rw[if_neg (by omega),if_neg (by omega),if_neg (by omega),if_pos hk]
 rw[hb];have hp:=F.parts (by omega);obtain⟨hbl,hkl,hs0,hs1⟩:=F.choice hk;obtain⟨c,v,hc,hv,hcw,hvw⟩:=F.items18 W hk hr k hlt;have hcp:c<(zac d).length:=by rw[<-W.n];exact hcw
 have hck:c<d.kids.length:=by rw[<-hp];exact hcp
 have hlen:=W.eq c hcw hcp;have HV:=zh hv;have HC:=zh hc;clear hv hc hb;have hb1:1<d.bufs.length:=by omega
 have e0:=zhw F (r:=o+k) (fun h1=>by have:=hs1 h1;omega) hb1;rw[HV.o] at e0;have E0:=zh e0;clear e0;obtain⟨u,hu1,hu2,hu3,hu4⟩:=hP c hcp v (by rw[<-hlen];omega);have hup:=zel u;rw[HC.o,HV.o,Int.toNat_natCast,Int.toNat_natCast,hu2,show wrap64 (16+wtV u)=16+wtV u by unfold wrap64;omega];have hw:wtV (.mk false (c:Int) ⟨#[]⟩ [u])=16+wtV u:=by rw[zeT,zaA,zaA];omega
 simp only[hp] at hlen;refine⟨.mk false (c:Int) ⟨#[]⟩ [u],fun x hx=>?_,hw.symm,by rw[hw];omega,fun m hm=>?_⟩
 ·rw[hw] at hx ⊢;rw[zdG hn];unfold zeQ;rw[if_neg (by omega),if_neg (by omega),if_neg (by omega),if_pos hk];unfold zek;rw[HC.o,E0.o,Int.toNat_natCast,Int.toNat_natCast,List.getElem?_eq_getElem hck];rw[if_neg (by
   show ¬((d.kids.length:Int)<=(c:Int)\/(v:Int)<0\/d.kids[c].len<=(v:Int));omega),if_neg (by omega),hu1 (x-16) (by omega)]
  show some (_,_)=some (_,_)
  congr 2
  omega
 ·obtain⟨m',rfl⟩:=zcy hm;unfold okN;have hcf:c<f.kids.length:=by omega
  have hkid:okN m' (zan f c) u=true:=by
   have:=hu4 m' (by rw[zcU (by omega)];exact zfc hcf hm)
   rwa [zcU (by omega)] at this
  rw[if_neg (by show ¬4096<1;omega),if_neg (by show ¬false=true;decide),if_neg (by omega),if_pos hk];show(decide ((0:Nat)=0) && (decide (0<=(c:Int)) && (decide ((c:Int)<f.kids.length) && (decide ((1:Nat)=1) && [u].all (okN m' (zan f ((c:Int)).toNat))))))=true;rw[Int.toNat_natCast];simp[hkid];omega
theorem zpN {n:Nat}{inD:Bool}{f:Fd}{d:Dt}{nn o k:Nat}{ws:List (List Int)}{run:Nat}(F:Fit f d nn o)(W:Wd d ws)(hP:zfd (zay n) f d ws)(hL:∀k (hk:k<(zac d).length),(zac d)[k].len<=4096)(hg:zck inD f)(hk:f.k=19)(hr:zaH f d=0)(hlt:k<nn)(hn:zaF f.k d.bufs (o+k)=false):zeA n f d (o+k) (zcu f d ws (o+k) run).1:=by
 rw[zdU hn (by omega) (by omega)];have hb:zbC f d ws (o+k) (zce f d (o+k) run)=at2 ws 0 (zcG f d (buf d 1) (o+k)).toNat:=by
  unfold zbC;rw[if_neg (by omega),if_neg (by omega),if_neg (by omega),if_neg (by omega),if_pos hk]
 rw[hb];have hp:=F.partsDict hk;obtain⟨hbl,hdl,m,hm,h1m,h8m,hsz⟩:=F.dict hk;obtain⟨v,hv,h0,hvw⟩:=F.items19 W hk hr k hlt hn;have hp0:0<(zac d).length:=by rw[<-W.n];exact h0
 have hd0:0<d.dict.length:=by omega
 have hlen:=W.eq 0 h0 hp0;have hl4:=hL 0 hp0;obtain⟨u,hu1,hu2,hu3,hu4⟩:=hP 0 hp0 v (by rw[<-hlen];omega);simp only[hp] at hl4 hlen;have hix:=zhc (zaE F.may).1 hk;obtain⟨hr1,hr2⟩:=zns (r:=o+k) hm h1m hix hd0 hl4 (by
  rw[zb7 (show 1<d.bufs.length by omega)];have:=hsz (by omega);have h1:(o+k+1)*m<=(o+nn)*m:=Nat.mul_le_mul_right m (by omega);omega) (by omega)
 rw[hv] at hr1 hr2;rw[hv,Int.toNat_natCast,hu2];have hone:=zaW (zaE F.may).1 (by omega:f.k=15\/f.k=16\/f.k=19\/f.k=20);obtain⟨⟨g1,g2,g3,g4⟩,g5⟩:=zbp.1 hg;have hkid:zan f 0 ∈ f.kids:=zgE (by omega);have hgk:=zbp.1 (zbj g5 _ hkid);have hnl:(zan f 0).nl=false:=by
  have:=g4 hk;unfold zc4 at this;unfold zan;cases hkk:f.kids with
  | nil=>rw[hkk] at hone;cases hone
  | cons a r=>rw[hkk] at this;exact this
 have hk20:(zan f 0).k≠20:=fun e=>hgk.1.2.2.1 ⟨by rw[hk];simp,.inr e⟩;refine⟨u,fun x hx=>?_,rfl,by omega,fun m2 hm2=>?_⟩
 ·rw[zdG hn];unfold zeQ;rw[if_neg (by omega),if_neg (by omega),if_neg (by omega),if_neg (by omega),if_pos hk];unfold zfN;rw[hr1,List.getElem?_eq_getElem hd0];have e:IntKind.u64.wrap ((Option.map Dt.len (some d.dict[0])).getD 0)=d.dict[0].len:=by
   show IntKind.u64.wrap d.dict[0].len=_;rw[IntKind.wrap_u64];omega
  rw[e,if_neg (by omega),Int.toNat_natCast];exact hu1 x hx
 ·obtain⟨m',rfl⟩:=zcy hm2;have hkk:okN m' (zan f 0) u=true:=by
   have:=hu4 m' (by rw[zcU (by omega)];exact zfc (by omega) hm2)
   rwa [zcU (by omega)] at this
  have hul:=zda hkk;have hun:¬u.nl=true:=fun e=>by
   obtain⟨-,-,-,h⟩:=ziD hkk e;rw[zfy,if_neg hk20,hnl] at h;cases h
  unfold okN;rw[if_neg (by omega),if_neg hun,if_pos (.inl hk)];exact hkk
theorem zpO {n:Nat}{f:Fd}{d:Dt}{nn o k:Nat}{ws:List (List Int)}{run:Nat}(F:Fit f d nn o)(W:Wd d ws)(hP:zfd (zay n) f d ws)(hk:f.k=20)(he:zdR d=0)(hs0:∀h:0<d.kids.length,zaP endsF d.kids[0]=0)(hlt:k<nn)(hn:zaF f.k d.bufs (o+k)=false)
  (hrun:∀j,j<run->s32 (buf (zbM d) 1) ((zbM d).off.toNat+j)<=((o+k:Nat):Int)) (hrn:run<=(zbM d).len.toNat):zeA n f d (o+k) (zcu f d ws (o+k) run).1/\(∀j,j<(zcu f d ws (o+k) run).2->s32 (buf (zbM d) 1) ((zbM d).off.toNat+j)<=((o+k:Nat):Int))/\(zcu f d ws (o+k) run).2<=(zbM d).len.toNat:=by
 rw[zdU hn (by omega) (by omega)];have hone:=zaW (zaE F.may).1 (by omega:f.k=15\/f.k=16\/f.k=19\/f.k=20);have hnk:d.kids.length=2:=by
  rw[F.nk];unfold zbY;rw[if_neg (by rw[F.may];simp;omega),if_pos hk,hone]
 have hp:=F.parts (by omega);have hk0:zbM d=d.kids[0]:=zmN (by omega);obtain⟨n0,o0,F0⟩:=Fit.of (hs0 (by omega));have hsz:∀j,j<n0->zbc (buf d.kids[0] 1) (4*(o0+j)) 4=s32 (buf d.kids[0] 1) (o0+j):=fun j hj=>by
  have hbl:=(zhr F0 (.inr (.inr ⟨by decide,by decide⟩))).1;refine zq9 ?_;rw[zb7 hbl];have h:=F0.small 1 hbl;have hw:zbK endsF=4:=by
   unfold zbK;rw[if_neg (by rw[F0.may];decide)];rfl
  have hneed:zaB endsF 1 (n0+o0) d.kids[0].bufs[1].size=((n0+o0:Nat):Int)*4:=by
   unfold zaB;rw[hw];rfl
  rw[hneed] at h;have h9:4*(o0+j)+4<=(n0+o0)*4:=by omega
  omega
 have hend:zbO d.kids[0] d.kids[1] (d.off+d.len)=0:=by
  unfold zdR at he;rw[List.getElem?_eq_getElem (show 0<d.kids.length by omega),List.getElem?_eq_getElem (show 1<d.kids.length by omega)] at he;exact he
 rw[F.off,F.len,show((o:Int)+(nn:Int))=((o+nn:Nat):Int) by push_cast;rfl] at hend;obtain⟨mm,hmm,hlast,heq⟩:=zj0 hend (by omega) n0 o0 F0.len F0.off;rw[hk0,F0.off,Int.toNat_natCast] at hrun;rw[hk0,F0.len,Int.toNat_natCast] at hrn;rw[hk0,F0.off,F0.len,Int.toNat_natCast,Int.toNat_natCast];have HL:=zh hlast;clear hlast;have hmr:run<=mm:=Nat.not_lt.1 fun h=>by
  have h7:=Int.le_trans HL.o (hrun mm h);omega
 have HRU:=zh hrun;clear hrun;have hadv:=zlo (s:=buf d.kids[0] 1) (eo:=o0) (r:=o+k) (n0-run) run ⟨mm,hmr,by omega,Int.lt_of_lt_of_le (by omega) HL.o⟩;have hrw:zce f d (o+k) run=adv (buf d.kids[0] 1) o0 (o+k) (n0-run) run:=by
  unfold zce;rw[if_pos hk,hk0,F0.off,F0.len,Int.toNat_natCast,Int.toNat_natCast]
 have h2:(zcu f d ws (o+k) run).2=zce f d (o+k) run:=by
  unfold zcu;rw[if_neg (by rw[hn];decide)]
 rw[h2,hrw];generalize adv (buf d.kids[0] 1) o0 (o+k) (n0-run) run=A at *;obtain⟨a1,a2,a3,a4⟩:=hadv;have A3:=zh a3;clear a3;have hall:∀j,j<A->s32 (buf d.kids[0] 1) (o0+j)<=((o+k:Nat):Int):=fun j hj=>by
  by_cases e:j<run
  ·exact HRU.o j e
  ·exact a4 j (by omega) hj
 refine⟨?_,hall,by omega⟩;have HALL:=zh hall;clear hall a4;have hb:zbC f d ws (o+k) A=at2 ws 1 A:=by
  unfold zbC;rw[if_neg (by omega),if_neg (by omega),if_neg (by omega),if_neg (by omega),if_neg (by omega),if_pos hk]
 rw[hb];have h1p:1<(zac d).length:=by rw[hp];omega
 obtain⟨u,hu1,hu2,hu3,hu4⟩:=hP 1 h1p A (by
  simp only[hp];rw[<-heq,F0.len];omega)
 rw[hu2];have hpf:zat f 1=zan f 0:=by
  unfold zat zan;rw[if_pos hk,if_neg (by decide)]
 refine⟨u,fun x hx=>?_,rfl,by omega,fun m2 hm2=>?_⟩
 ·rw[zdG hn];unfold zeQ;rw[if_neg (by omega),if_neg (by omega),if_neg (by omega),if_neg (by omega),if_neg (by omega),if_pos hk];unfold zfO;rw[hk0,F0.off,F0.len,Int.toNat_natCast,Int.toNat_natCast,zi5 (A:=A) n0 0 (by omega) (by omega) (by rw[hsz A (by omega)];exact A3.o) (fun j hj1 hj2=>by
   rw[hsz j (by omega)];exact Int.not_lt.2 (HALL.o j hj2))]
  exact hu1 x hx
 ·obtain⟨m',rfl⟩:=zcy hm2;have hkk:okN m' (zan f 0) u=true:=by
   have:=hu4 m' (by rw[hpf];exact zfc (by omega) hm2)
   rwa [hpf] at this
  have hul:=zda hkk;unfold okN;rw[if_neg (by omega)];by_cases hun:u.nl=true
  ·obtain⟨q1,q2,q3,q4⟩:=ziD hkk hun;rw[if_pos hun,q1,q2,q3];have:zcl f=zcl (zan f 0):=by
    rw[zfy,if_pos hk];unfold zan;cases hkd:f.kids with
    | nil=>rw[hkd] at hone;cases hone
    | cons a r=>rw[zkE];rfl
   rw[this,q4];rfl
  ·rw[if_neg hun,if_pos (.inr hk)];exact hkk
theorem zoC {k:Int}{bufs:List ByteArray}{r:Nat}(h:zaF k bufs r=true):k=1\/(k≠18/\k≠20):=by
 by_cases h1:k=1
 ·exact .inl h1
 ·right;unfold zaF at h;rw[if_neg h1] at h;constructor
  ·intro e;subst e;rw[if_pos (by decide)] at h;cases h
  ·intro e;subst e;rw[if_pos (by decide)] at h;cases h
theorem zoD {inD:Bool}{f:Fd}{d:Dt}{nn o k:Nat}(hg:zck inD f)(hz:zc7 f d nn o=0)(hk:k<nn)(hn:zaF f.k d.bufs (o+k)=true):zcl f=true:=by
 obtain⟨⟨g1,g2,g3,g4⟩,g5⟩:=zbp.1 hg;rw[zfy];rcases zoC hn with h1|⟨h18,h20⟩
 ·unfold zc5 at g2;rw[if_pos h1] at g2;rw[if_neg (by omega),g2,h1];rfl
 ·rw[if_neg h20];have hc:=zj7 (k:=f.k) (bufs:=d.bufs) (o:=o) hk hn;unfold zc7 at hz;by_cases h:d.nul≠(zcQ f.k d.bufs o nn:Int)\/(0<zcQ f.k d.bufs o nn/\f.nl=false)
  ·rw[if_pos h] at hz;omega
  ·have:f.nl=true:=by
    cases hnl:f.nl with
    | true=>rfl
    | false=>exact absurd (.inr ⟨hc,hnl⟩) h
   rw[this];simp[h18]
theorem zoE (inD:Bool):zck inD endsF:=zbp.2 ⟨⟨by decide,by decide,fun e=>by
 have:endsF.k=5:=rfl;rcases e.2 with h|h <;> rw[this] at h <;> omega,fun e=>by
 have:endsF.k=5:=rfl;rw[this] at e;omega⟩,trivial⟩
theorem zqN {n:Nat}{inD:Bool}{f:Fd}{d:Dt}{nn o k:Nat}{ws:List (List Int)}{run:Nat}(hg:zck inD f)(F:Fit f d nn o)(W:Wd d ws)(hP:zfd (zay n) f d ws)(hL:∀k (hk:k<(zac d).length),(zac d)[k].len<=4096)(hr:zaH f d=0)(hz:zc7 f d nn o=0)(he:f.k=20->zdR d=0)
  (hs0:f.k=20->∀h:0<d.kids.length,zaP endsF d.kids[0]=0) (hlt:k<nn) (hrun:f.k=20->(∀j,j<run->s32 (buf (zbM d) 1) ((zbM d).off.toNat+j)<=((o+k:Nat):Int))/\run<=(zbM d).len.toNat) :
  zeA n f d (o+k) (zcu f d ws (o+k) run).1/\(f.k=20->(∀j,j<(zcu f d ws (o+k) run).2->s32 (buf (zbM d) 1) ((zbM d).off.toNat+j)<=((o+k:Nat):Int))/\(zcu f d ws (o+k) run).2<=(zbM d).len.toNat):=by
 cases hn:zaF f.k d.bufs (o+k) with
 | true=>
  have e:zcu f d ws (o+k) run=(16,run):=by unfold zcu;rw[if_pos hn]
  rw[e];exact⟨zpJ hn (zoD hg hz hlt hn),hrun⟩
 | false=>
  have hkk:=zmP F;have h1:f.k≠1:=fun e=>by unfold zaF at hn;rw[if_pos e] at hn;cases hn
  by_cases h20:f.k=20
  ·obtain⟨a,b⟩:=hrun h20;obtain⟨c1,c2,c3⟩:=zpO (n:=n) F W hP h20 (he h20) (hs0 h20) hlt hn a b;exact⟨c1,fun _=>⟨c2,c3⟩⟩
  refine⟨?_,fun e=>absurd e h20⟩;by_cases h12:f.k=12\/f.k=13
  ·exact zpL F h12 hr hlt hn
  by_cases h15:f.k=15\/f.k=16
  ·exact zoB F W hP hL h15 hr hlt hn
  by_cases h17:f.k=17
  ·exact znu F W hP h17 hlt hn
  by_cases h18:f.k=18
  ·exact znv F W hP h18 hr hlt hn
  by_cases h19:f.k=19
  ·exact zpN F W hP hL hg h19 hr hlt hn
  ·exact zpK F (by omega) hlt hn
theorem zlp {n:Nat}{inD:Bool}{f:Fd}{d:Dt}{nn o:Nat}{ws:List (List Int)}(hg:zck inD f)(F:Fit f d nn o)(W:Wd d ws)(hP:zfd (zay n) f d ws)(hL:∀k (hk:k<(zac d).length),(zac d)[k].len<=4096)(hr:zaH f d=0)(hz:zc7 f d nn o=0)(he:f.k=20->zdR d=0)
  (hs0:f.k=20->∀h:0<d.kids.length,zaP endsF d.kids[0]=0):∀m,m<=nn ->
  (f.k=20->(∀j,j<(zca f d ws o m).2->s32 (buf (zbM d) 1) ((zbM d).off.toNat+j)<=((o+m:Nat):Int))/\(zca f d ws o m).2<=(zbM d).len.toNat)/\∀k,k<m->∃x,(zca f d ws o m).1[k]?=some x/\zeA n f d (o+k) x
 | 0,_=>⟨fun _=>⟨fun j hj=>by have:j<0:=hj;omega,Nat.zero_le _⟩,fun k hk=>by omega⟩
 | m+1,hm=>by
  obtain⟨ih1,ih2⟩:=zlp hg F W hP hL hr hz he hs0 m (by omega);obtain⟨r1,r2⟩:=zqN (n:=n) (run:=(zca f d ws o m).2) hg F W hP hL hr hz he hs0 (k:=m) (by omega) ih1;have hl:=zd5 f d ws o m;rw[zca];refine⟨fun e=>⟨fun j hj=>?_,(r2 e).2⟩,fun k hk=>?_⟩
  ·have:=(r2 e).1 j hj;omega
  ·by_cases e:k=m
   ·subst e;refine⟨_,?_,r1⟩;rw[List.getElem?_append_right (by omega),hl,Nat.sub_self];rfl
   ·obtain⟨x,h1,h2⟩:=ih2 k (by omega);refine⟨x,?_,h2⟩;rw[List.getElem?_append_left (by omega)];exact h1
theorem zi6:∀(n:Nat) {inD:Bool} {f:Fd} {d:Dt},zck inD f->(zap f d).1=0->zaN d<=n->∀i:Nat,(i:Int)<d.len ->
  ∃v,zhX (zay n f d (d.off.toNat+i)) v/\(zap f d).2[i]?=some (wtV v)/\wtV v<=4194304/\∀m,zau f<=m->okN m f v=true
 | 0,inD,f,d,_,_,hd=>by
  cases d with
  | mk len off nul bufs kids dict=>rw[zaN] at hd;omega
 | n+1,inD,f,d,hg,hw,hd=>by
  have W0:=WellD.of hw;obtain⟨nn,o,F⟩:=Fit.of W0.sizes;have W:=zla W0.parts;obtain⟨⟨g1,g2,g3,g4⟩,g5⟩:=zbp.1 hg;have hz:=zjC W0.sizes;rw[F.len,F.off,Int.toNat_natCast,Int.toNat_natCast] at hz;have hL:∀k (hk:k<(zac d).length),(zac d)[k].len<=4096:=fun k hk=>by
   obtain⟨n',o',F'⟩:=Fit.of (WellD.of (W0.parts k hk)).sizes;have:=F'.few;rw[F'.len];omega
  have hgp:∀k (hk:k<(zac d).length),zck (inD || decide (f.k=19)) (zat f k):=fun k hk=>by
   by_cases h20:f.k=20
   ·have hone:=zaW g1 (by omega:f.k=15\/f.k=16\/f.k=19\/f.k=20);by_cases hk0:k=0
    ·subst hk0;rw[show zat f 0=endsF by unfold zat;rw[if_pos h20,if_pos rfl]];exact zoE _
    ·rw[show zat f k=zan f 0 by unfold zat zan;rw[if_pos h20,if_neg hk0]];exact zbj g5 _ (zgE (by omega))
   ·rw[zcU h20];refine zbj g5 _ (zgE ?_);by_cases h19:f.k=19
    ·have hone:=zaW g1 (by omega:f.k=15\/f.k=16\/f.k=19\/f.k=20);rw[F.partsDict h19] at hk;have:=(F.dict h19).2.1;omega
    ·rw[F.parts h19,F.nk,zde F.may h19 h20] at hk;exact hk
  have hP:zfd (zay n) f d (za4 f 0 (zac d)):=fun k hk j hj=>by
   obtain⟨v,h1,h2,h3,h4⟩:=zi6 n (hgp k hk) (W0.parts k hk) (by have:=zcf (List.getElem_mem hk);omega) j hj;refine⟨v,fun x hx=>?_,?_,h3,h4⟩
   ·rw[zge hk];exact h1 x hx
   ·have hkw:k<(za4 f 0 (zac d)).length:=by rw[zcB];exact hk
    have e:=ze4 f (zac d) 0 k hk hkw;rw[Nat.zero_add] at e;unfold at2;rw[List.getElem?_eq_getElem hkw,Option.getD_some,e,h2];rfl
  have hs0:f.k=20->∀h:0<d.kids.length,zaP endsF d.kids[0]=0:=fun h20 h=>by
   have hp:=F.parts (by omega);have:=(WellD.of (W0.parts 0 (by rw[hp];exact h))).sizes;simp only[hp] at this
   rwa [show zat f 0=endsF by unfold zat;rw[if_pos h20,if_pos rfl]] at this
  obtain⟨-,hrows⟩:=zlp (n:=n) hg F W hP hL W0.rows hz W0.ends hs0 nn (Nat.le_refl _);have hwt:(zap f d).2=(zca f d (za4 f 0 (zac d)) o nn).1:=by
   rw[W0.wts.1];show zbo f d _=_;unfold zbo;rw[F.len,F.off,Int.toNat_natCast,Int.toNat_natCast]
  have hfold:=W0.wts.2;have hwt2:zbo f d (za4 f 0 (zac d))=(zca f d (za4 f 0 (zac d)) o nn).1:=by
   unfold zbo;rw[F.len,F.off,Int.toNat_natCast,Int.toNat_natCast]
  rw[hwt2] at hfold;have hlen:=zd5 f d (za4 f 0 (zac d)) o nn;rw[hwt];generalize (zca f d (za4 f 0 (zac d)) o nn).1=l at *;have hel:∀x ∈ l,0<=x/\x<=68719476736:=fun x hx=>by
   obtain⟨i,hi,rfl⟩:=List.getElem_of_mem hx;obtain⟨y,h1,v,-,h2,h3,-⟩:=hrows i (by omega);rw[List.getElem?_eq_getElem hi] at h1;cases h1;have:=zel v;rw[h2];omega
  have hfew:=F.few;obtain⟨hs1,hs2⟩:=zhv l _ hel;have hll:(l.length:Int)<=4096:=by omega
  have hs3:l.sum<=4096*68719476736:=Int.le_trans hs2 (Int.mul_le_mul_of_nonneg_right hll (by decide));rw[zhu l 0 (Int.le_refl _) (fun x hx=>(hel x hx).1) (by omega)] at hfold;intro i hi;rw[F.len] at hi;obtain⟨x,h1,v,h2,h3,h4,h5⟩:=hrows i (by omega);have hx:x ∈ l:=List.mem_of_getElem? h1;have:=zmT l (fun x hx=>(hel x hx).1) x hx;refine⟨v,?_,by rw[h1,h3],by omega,h5⟩;rw[F.off,Int.toNat_natCast];exact h2
theorem zpP {f:Fd}{d:Dt}(hf:zbh f=0)(hw:(zap f d).1=0):((zap f d).2.length:Int)=d.len/\za9 0 (zap f d).2<=4194304:=by
 have W0:=WellD.of hw;refine⟨(zhm hw).2,?_⟩;rw[W0.wts.1];exact W0.wts.2
def zbZ (x y:Int):Int:=if x<y then -1 else if y<x then 1 else 0
theorem zfm (x y:Int):(zbZ x y=-1/\x<y)\/(zbZ x y=0/\x=y)\/(zbZ x y=1/\y<x):=by
 unfold zbZ;by_cases h:x<y
 ·rw[if_pos h];exact .inl ⟨rfl,h⟩
 ·rw[if_neg h];by_cases h':y<x
  ·rw[if_pos h'];exact .inr (.inr ⟨rfl,h'⟩)
  ·rw[if_neg h'];exact .inr (.inl ⟨rfl,by omega⟩)
def zcp {α:Type}(c:Nat->α->α->Int):Nat->List α->List α->Int
 | _,[],[]=>0
 | _,[],_ :: _=>-1
 | _,_ :: _,[]=>1
 | i,a :: l,b :: m=>if c i a b=0 then zcp c (i+1) l m else c i a b
def ziE (a b:ByteArray):Int:=zcp (fun _ x y=>zbZ ((x:UInt8).toNat:Int) ((y:UInt8).toNat:Int)) 0 a.data.toList b.data.toList
def zeg (n:Int):Int:=if n<0 then -1-n else n+9223372036854775808
inductive NumI:Vl->Prop
 | mk {v:Vl}:zah v.num->(∀u ∈ v.kids,NumI u)->NumI v
theorem NumI.num {v:Vl}(h:NumI v):zah v.num:=by cases h;assumption
theorem NumI.kids {v:Vl}(h:NumI v):∀u ∈ v.kids,NumI u:=by cases h;assumption
def zcL (v:Vl):Vl:=v.kids[0]?.getD v
def zbw:Nat->Fd->Vl->Vl->Int
 | 0,_,_,_=>0
 | m+1,f,a,b=>
  if a.nl=true\/b.nl=true then(if a.nl=true/\b.nl=true then 0 else if a.nl=true then -1 else 1)
  else if f.k=19\/f.k=20 then zbw m (zan f 0) a b
  else if f.k=10 then zbZ (a.num % 18446744073709551616) (b.num % 18446744073709551616)
  else if f.k=11 then zbZ (zeg a.num) (zeg b.num)
  else if f.k=12\/f.k=13\/f.k=14 then ziE a.tx b.tx
  else if f.k=18 then(if a.num≠b.num then zbZ a.num b.num else zbw m (zan f a.num.toNat) (zcL a) (zcL b))
  else if f.k=15\/f.k=16\/f.k=17 then zcp (fun i=>zbw m (zan f (if f.k=17 then i else 0))) 0 a.kids b.kids
  else zbZ a.num b.num
def zhx (m:Nat)(f:Fd)(v:Vl):Prop:=okN m f v=true/\NumI v
theorem zrs {a b:Vl}(h1:a.nl=b.nl)(h2:a.num=b.num)(h3:a.tx=b.tx)(h4:a.kids=b.kids):a=b:=by
 cases a;cases b;simp only[Vl.nl,Vl.num,Vl.tx,Vl.kids] at h1 h2 h3 h4;rw[h1,h2,h3,h4]
theorem zeU {a:ByteArray}(h:a.size=0):a=⟨#[]⟩:=by
 cases a with
 | mk d=>congr 1;exact Array.eq_empty_of_size_eq_zero h
theorem znw {m:Nat}{f:Fd}{v:Vl}(h:okN m f v=true)(hn:v.nl=true):v=.mk true 0 ⟨#[]⟩ []:=by
 obtain⟨h1,h2,h3,-⟩:=ziD h hn;exact zrs hn h1 (zeU h2) (List.eq_nil_of_length_eq_zero h3)
theorem zfz {m:Nat}{f:Fd}{v:Vl}(h:okN (m+1) f v=true)(hn:v.nl=false)(hk:f.k=19\/f.k=20):okN m (zan f 0) v=true:=by
 have hl:=zda h;unfold okN at h
 rwa [if_neg (by omega),if_neg (by rw[hn];decide),if_pos hk] at h
theorem zpQ {m:Nat}{f:Fd}{v:Vl}(h:okN (m+1) f v=true)(hn:v.nl=false)(hk:f.k=12\/f.k=13\/f.k=14):v.num=0/\v.kids=[]:=by
 have hl:=zda h;unfold okN at h;rw[if_neg (by omega),if_neg (by rw[hn];decide),if_neg (by omega),if_neg (by omega),if_neg (by omega),if_neg (by omega),if_pos hk] at h;simp only[Bool.and_eq_true,decide_eq_true_eq] at h;exact⟨h.1,List.eq_nil_of_length_eq_zero h.2.1⟩
theorem zgF {m:Nat}{f:Fd}{v:Vl}(h:okN (m+1) f v=true)(hn:v.nl=false)(hk:f.k=18):v.tx=⟨#[]⟩/\0<=v.num/\v.num<f.kids.length/\v.kids=[zcL v]/\okN m (zan f v.num.toNat) (zcL v)=true:=by
 have hl:=zda h;unfold okN at h;rw[if_neg (by omega),if_neg (by rw[hn];decide),if_neg (by omega),if_pos hk] at h;simp only[Bool.and_eq_true,decide_eq_true_eq,List.all_eq_true] at h;obtain⟨h1,h2,h3,h4,h5⟩:=h
 match hv:v.kids,h4 with
 | [u],_=>
  have hh:zcL v=u:=by unfold zcL;rw[hv];rfl
  rw[hh];exact⟨zeU h1,h2,h3,rfl,h5 u (by rw[hv];exact List.mem_cons_self ..)⟩
theorem zeh {m:Nat}{f:Fd}{v:Vl}(h:okN (m+1) f v=true)(hn:v.nl=false)(hk:f.k=15\/f.k=16\/f.k=17):v.num=0/\v.tx=⟨#[]⟩/\(f.k=17->v.kids.length=f.kids.length)/\(f.k=16->(v.kids.length:Int)=f.wd)/\∀i (hi:i<v.kids.length),okN m (zan f (if f.k=17 then i else 0)) v.kids[i]=true:=by
 have hl:=zda h;unfold okN at h;rw[if_neg (by omega),if_neg (by rw[hn];decide),if_neg (by omega),if_neg (by omega)] at h;by_cases h17:f.k=17
 ·rw[if_neg (by omega),if_pos h17] at h;simp only[Bool.and_eq_true,decide_eq_true_eq,List.all_eq_true,List.mem_range] at h;obtain⟨h1,h2,h3,h4⟩:=h;refine⟨h1,zeU h2,fun _=>h3,fun e=>by omega,fun i hi=>?_⟩;rw[if_pos h17];have:=h4 i hi
  rwa [List.getElem?_eq_getElem hi] at this
 ·rw[if_pos (by omega)] at h;simp only[Bool.and_eq_true,Bool.or_eq_true,decide_eq_true_eq,List.all_eq_true] at h;obtain⟨h1,h2,h3,h4⟩:=h;refine⟨h1,zeU h2,fun e=>absurd e h17,fun e=>by omega,fun i hi=>?_⟩;rw[if_neg h17];exact h4 _ (List.getElem_mem hi)
theorem zpR {m:Nat}{f:Fd}{v:Vl}(h:okN (m+1) f v=true)(hn:v.nl=false)(h1:¬(f.k=19\/f.k=20))(h2:f.k≠18)(h3:¬(f.k=15\/f.k=16\/f.k=17))(h4:¬(f.k=12\/f.k=13\/f.k=14)):v.tx=⟨#[]⟩/\v.kids=[]/\(if f.k=2 then decide (v.num=0) || decide (v.num=1) else if f.k=11 then true else zdm f.k v.num)=true:=by
 have hl:=zda h;unfold okN at h;rw[if_neg (by omega),if_neg (by rw[hn];decide),if_neg h1,if_neg h2,if_neg (by omega),if_neg (by omega),if_neg h4] at h;simp only[Bool.and_eq_true,decide_eq_true_eq] at h;exact⟨zeU h.1,List.eq_nil_of_length_eq_zero h.2.1,h.2.2⟩
structure ArrS (S:Nat->Prop)(w:World)(b:Nat)(f:Fd)(d:Dt)(fr n:Int):Prop where
 ok:FdOk f
 at':∃fp fc bp bc kp kc dp dc,BoxN w b 115 (zdt f fp fc d bp bc kp kc dp dc fr n)/\M.AtL S w (fdR f) (f7 f fp fc)/\DAt S w d (d6 d bp bc kp kc dp dc)
theorem ArrS.arr {S:Nat->Prop}{w:World}{b:Nat}{f:Fd}{d:Dt}{fr n:Int}(h:ArrS S w b f d fr n):ArrAt w w b f d fr n:=by
 obtain⟨fp,fc,bp,bc,kp,kc,dp,dc,h1,h2,h3⟩:=h.at';exact⟨fp,fc,bp,bc,kp,kc,dp,dc,h1,FdAt.ofM h.ok h2,h3.mono fun _ _=>trivial⟩
theorem ArrS.lt {S:Nat->Prop}{w:World}{b:Nat}{f:Fd}{d:Dt}{fr n:Int}(h:ArrS S w b f d fr n):b<w.heap.size:=h.arr.lt
theorem ArrS.keep {S T:Nat->Prop}{w w':World}{b:Nat}{f:Fd}{d:Dt}{fr n:Int}(h:ArrS S w b f d fr n)(hS:∀k,S k->k<w.heap.size->w'.heap[k]?=w.heap[k]?/\T k)(hb:w'.heap[b]?=w.heap[b]?):ArrS T w' b f d fr n:=by
 obtain⟨fp,fc,bp,bc,kp,kc,dp,dc,h1,h2,h3⟩:=h.at';exact⟨h.ok,fp,fc,bp,bc,kp,kc,dp,dc,hb.trans h1,M.AtL.keep (T:=T) hS h2,M.AtL.keep (T:=T) hS h3⟩
theorem ArrS.below {S:Nat->Prop}{w w':World}{b:Nat}{f:Fd}{d:Dt}{fr n:Int}(h:ArrS S w b f d fr n)(hb:Below w.heap.size w w'):ArrS S w' b f d fr n:=
 h.keep (fun k hk hlt=>⟨hb.block k hlt,hk⟩) (hb.block b h.lt)
def OpenS (S:Nat->Prop)(w:World)(f:Fd)(d:Dt)(e:Ending)(w':World):Prop:=Below w.heap.size w w' /\
 ((zaG f d≠0/\∃(pq:Option Addr) (pd pc:Nat) (a:Int),e=.returned (.tuple #[.pointer none,.agg #[.int .i64 (zaG f d),.slice pq pd pc,.int .i64 a]])) \/
  (zaG f d=0/\∃b,e=.returned (.tuple #[.pointer (some ⟨b,0,none⟩),.agg #[.int .i64 0,.slice none 0 0,.int .i64 0]])/\w.heap.size<=b/\ArrS S w' b f d d.off d.len))
theorem znx (w:World)(f:Fd)(d:Dt)(fp:Option Addr)(fc:Nat)(bp:Option Addr)(bc:Nat)(kp:Option Addr)(kc:Nat)(dp:Option Addr)(dc:Nat) :
  Calls Tryz.prog 35 #[.agg #[.string f.nm,.bool f.nl,.int .i64 f.k,.int .i64 f.wd,.int .i64 f.id,.int .i64 f.ix,.slice fp f.kids.length fc],.agg #[.int .i64 d.len,.int .i64 d.off,.int .i64 d.nul,.slice bp d.bufs.length bc,.slice kp d.kids.length kc,.slice dp d.dict.length dc],.pointer none] w (fun e w'=>∃b,e=.returned (.pointer (some ⟨b,0,none⟩))/\w.heap.size<=b/\BoxN w' b 115 (zdt f fp fc d bp bc kp kc dp dc d.off d.len)/\Below w.heap.size w w'):=by
 obtain⟨W,hW,a1,a2,hBW⟩:=zbt w 26 (f7 f fp fc) 46 (d6 d bp bc kp kc dp dc);have hws:W.heap.size=w.heap.size+1+1:=by rw[hW,World.size_alloc,World.size_alloc]
 have HWS:=zh hws;have HBW:=zh hBW;have HW:=zh hW;have hs0:RowAt W.drew w.heap.size (f7 f fp fc)/\RowAt W.drew (w.heap.size+1) (d6 d bp bc kp kc dp dc):=⟨a1.row,a2.row⟩;have HS0:=zh hs0;clear a1 a2 hBW hW hs0 hws;obtain⟨fam,hfam⟩:∃fam,Value.iface fam (.agg #[])=zdS f.k:=⟨_,rfl⟩;have HFAM:=zh hfam;clear hfam
 go_in
 go_wp2_with fail;rw[<-HW.o];clear HW;refine Late.region (fun w'=>RowAt w' w.heap.size (f7 f fp fc)/\RowAt w' (w.heap.size+1) (d6 d bp bc kp kc dp dc)) (fun _=>false) (by kernel_rfl) ?_;refine Late.ta (i:=0) (v:=?_) ?_ HS0.o ?_;rotate_left
 ·intro w' hS;have p0:=hS.1 0 _ rfl;have p1:=hS.1 1 _ rfl;have p2:=hS.1 2 _ rfl;have p3:=hS.1 3 _ rfl;have p4:=hS.1 4 _ rfl;have p5:=hS.1 5 _ rfl;have p6:=hS.1 6 _ rfl;clear hS;go_simp;rfl
 refine Late.ta (i:=1) (v:=?_) ?_ HS0.o ?_;rotate_left
 ·intro w' hS;have r0:=hS.2 0 _ rfl;have r1:=hS.2 1 _ rfl;have r2:=hS.2 2 _ rfl;have r3:=hS.2 3 _ rfl;have r4:=hS.2 4 _ rfl;have r5:=hS.2 5 _ rfl;clear hS;go_simp;rfl
 refine Late.ta (i:=2) (v:=?_) ?_ HS0.o ?_;rotate_left
 ·intro w' hS;clear hS;go_simp;rfl
 refine Late.ta (i:=3) (v:=?_) ?_ HS0.o ?_;rotate_left
 ·intro w' hS;have r0:=hS.2 0 _ rfl;have r1:=hS.2 1 _ rfl;have r2:=hS.2 2 _ rfl;have r3:=hS.2 3 _ rfl;have r4:=hS.2 4 _ rfl;have r5:=hS.2 5 _ rfl;clear hS;go_simp;rfl
 refine Late.ta (i:=4) (v:=?_) ?_ HS0.o ?_;rotate_left
 ·intro w' hS;clear hS;go_simp;rfl
 refine Late.ta (i:=5) (v:=?_) ?_ HS0.o ?_;rotate_left
 ·intro w' hS;have r0:=hS.2 0 _ rfl;have r1:=hS.2 1 _ rfl;have r2:=hS.2 2 _ rfl;have r3:=hS.2 3 _ rfl;have r4:=hS.2 4 _ rfl;have r5:=hS.2 5 _ rfl;clear hS;go_simp;rfl
 refine Late.ta (i:=6) (v:=?_) ?_ HS0.o ?_;rotate_left
 ·intro w' hS;clear hS;go_simp;rfl
 refine Late.ta (i:=7) (v:=?_) ?_ HS0.o ?_;rotate_left
 ·intro w' hS;clear hS;go_simp;rfl
 refine Late.ta (i:=8) (v:=?_) ?_ HS0.o ?_;rotate_left
 ·intro w' hS;clear hS;go_simp;rfl
 refine Late.ta (i:=9) (v:=?_) ?_ HS0.o ?_;rotate_left
 ·intro w' hS;have p0:=hS.1 0 _ rfl;have p1:=hS.1 1 _ rfl;have p2:=hS.1 2 _ rfl;have p3:=hS.1 3 _ rfl;have p4:=hS.1 4 _ rfl;have p5:=hS.1 5 _ rfl;have p6:=hS.1 6 _ rfl;clear hS;go_simp;rfl
 refine Late.on (i:=10) fun K hK=>?_;go_simp;refine(zho f.k _).mono ?_;rintro e W2 ⟨rfl,rfl⟩;rw[<-HFAM.o];refine hK _ _ (fun _=>HS0.o) ?_;clear hK K;refine Late.on (i:=11) fun K hK=>?_;go_simp;refine hK _ _ (fun _=>HS0.o) ?_;clear hK K;refine Late.on (i:=12) fun K hK=>?_;go_simp;have hq:=HS0.o;refine hK _ _ (fun _=>⟨hq.1.alloc _,hq.2.alloc _⟩) ?_;clear hK K hq;refine Late.on (i:=13) fun K hK=>?_;go_simp;have hq:=HS0.o;refine hK _ _ (fun _=>⟨hq.1.alloc _,hq.2.alloc _⟩) ?_;clear hK K hq;refine Late.done (by kernel_rfl) ?_ _;go_wp2_with fail;go_ret;refine⟨_,rfl,?_,?_,?_⟩
 ·have:=HWS.o;show w.heap.size<=W.heap.size;omega
 ·unfold zdt;rw[<-HFAM.o];exact BoxN.new W 115 _
 ·exact(zaf HBW.o).alloc (show w.heap.size<=W.drew.heap.size by have:=HWS.o;show w.heap.size<=W.heap.size;omega) _
theorem ze6 {S:Nat->Prop}{w:World}(hSb:∀b,w.heap.size<=b->S b){f:Fd}{d:Dt}{fs ds:List Value}(hf:FdAt w f fs)(hd:DAt S w d ds)(hS:SaysAt w)(hW':SaysW w)(hT:Lib.Utf8Tabs 1 2 w)(hok:DtOk d) :
  Calls Tryz.prog 24 #[.agg fs.toArray,.agg ds.toArray] w (OpenS S w f d):=by
 have HSB:=zh hSb;clear hSb;obtain⟨fp,fc,rfl,-⟩:=hf.shape;obtain⟨bp,bc,kp,kc,dp,dc,rfl,-,-,-⟩:=hd.shape;have HF:=zh hf;have HD:=zh hd;have HT:=zh hT;have HS:=zh hS;have HSW:=zh hW';have HOK:=zh hok;clear hf hd hT hS hW' hok;obtain⟨W1,hW,x0,x1,x2,hBW⟩:=zbG w 26 (f7 f fp fc) 46 (d6 d bp bc kp kc dp dc) 69 [.int .i64 0,.slice none 0 0,.int .i64 0];have hs1:W1.heap.size=w.heap.size+3:=by rw[hW,World.size_alloc,World.size_alloc,World.size_alloc]
 have X0:=zh x0;have X1:=zh x1;have X2:=zh x2;have HB1:=zh hBW;have HW:=zh hW;have HS1:=zh hs1;obtain⟨p0,p1,p2,p3,p4,p5,p6⟩:=rr7 x0.row;obtain⟨r0,r1,r2,r3,r4,r5⟩:=rr6 x1.row;have hl1:=x0.lt;have hl2:=x1.lt;clear x0 x1 x2 hBW hW hs1
 go_in
 go_wp2_with fail;rw[<-HW.o];clear HW;refine(zmi (HF.o.below HB1.o) ((HD.o.mono fun _ _=>trivial).below HB1.o) (HS.o.below HB1.o) (HSW.o.below HB1.o) (Utf8Tabs_below HT.o HB1.o) HOK.o).mono ?_;rintro e V2 ⟨d2,pv2,at2,rfl,hwv,hb⟩;obtain⟨pq2,pc2,rfl,-⟩:=hwv;have HV2:=zh (HB1.o.trans (hb.mono HB1.o.size));have X0':=zh (X0.o.below hb X0.o.lt);have X1':=zh (X1.o.below hb X1.o.lt);have X2':=zh (X2.o.below hb X2.o.lt);have HSZ:=zh hb.size;clear hb p0 p1 p2 p3 p4 p5 p6 r0 r1 r2 r3 r4 r5 hl1 hl2;obtain⟨er,her⟩:=nm (zaG f d);rw[<-her];have HER:=zh her;clear her;by_cases hne:er≠0
 ·have hnb:(er != 0)=true:=by simpa using hne
  have HNE:=zh hne;clear hne;go_wp2_with fail;obtain⟨V3,hV3⟩:=nm (V2.alloc (Obj.cells #[.int .i64 er,.slice pq2 d2 pc2,.int .i64 at2] 69));have b3:BoxN V3 V2.heap.size 69 [.int .i64 er,.slice pq2 d2 pc2,.int .i64 at2]:=by rw[hV3];exact BoxN.new V2 69 _
  have hb3:Below V2.heap.size V2 V3:=by rw[hV3];exact(Below.refl _ V2).alloc (Nat.le_refl _) _
  rw[<-hV3];have X2d:=zh (X2'.o.below hb3 X2'.o.lt);have HV3:=zh (HV2.o.trans (hb3.mono HV2.o.size));have hs0:RowAt V3.drew V2.heap.size [.int .i64 er,.slice pq2 d2 pc2,.int .i64 at2]:=b3.row;have HS0:=zh hs0;have hx2:BoxN V3.drew (w.heap.size+1+1) 69 [.int .i64 0,.slice none 0 0,.int .i64 0]:=X2d.o;obtain⟨q0,q1,q2⟩:=rr3 hx2.row;obtain⟨z0,z1,z2⟩:=ff3 hx2;have hl3:=hx2.lt;have hne3:w.heap.size+1+1<V2.heap.size:=X2'.o.lt;have HX2:=zh hx2;clear hV3 b3 hb3 hs0 hx2 q0 q1 q2 z0 z1 z2 hl3;obtain⟨V3d,hV3d⟩:=nm (V3.drew);have HV3d:=zh (zaf HV3.o);refine Late.region (fun w'=>RowAt w' V2.heap.size [.int .i64 er,.slice pq2 d2 pc2,.int .i64 at2]) (fun _=>false) (by kernel_rfl) ?_;rw[<-hV3d] at HS0 HX2 HV3d ⊢;clear hV3d;obtain⟨q0,q1,q2⟩:=rr3 HX2.o.row;obtain⟨z0,z1,z2⟩:=ff3 HX2.o;have hl3:=HX2.o.lt;refine Late.ta (i:=0) (v:=?_) ?_ HS0.o ?_;rotate_left
  ·intro w' hS;have s0:=hS 0 _ rfl;have s1:=hS 1 _ rfl;have s2:=hS 2 _ rfl;clear hS;go_simp;rfl
  refine Late.ta (i:=1) (v:=?_) ?_ HS0.o ?_;rotate_left
  ·intro w' hS;clear hS;go_simp;rfl
  refine Late.on (i:=2) fun K hK=>?_;go_simp;have hq:RowAt (((V3d.setCell ⟨w.heap.size+1+1,0,none⟩ (.int .i64 er)).setCell ⟨w.heap.size+1+1,1,none⟩ (.slice pq2 d2 pc2)).setCell ⟨w.heap.size+1+1,2,none⟩ (.int .i64 at2)) V2.heap.size [.int .i64 er,.slice pq2 d2 pc2,.int .i64 at2]:=zbi (zbi (zbi HS0.o (by omega) _ _) (by omega) _ _) (by omega) _ _;refine hK _ _ (fun _=>hq) ?_;clear hK K hq;refine Late.done (by kernel_rfl) ?_ _;go_wp2_with fail;refine bodyPost_ret (zlf (i:=4) (j:=5) rfl rfl rfl (zak rfl HX2.o _ _ _).row) rfl ⟨zae HV3d.o (by omega) _ _ _,.inl ⟨by rw[<-HER.o];exact HNE.o,pq2,d2,pc2,at2,by rw[<-HER.o];rfl⟩⟩
 ·have h0:er=0:=by simpa using hne
  subst h0;clear hne;have hnb:((0:Int) != 0)=false:=rfl;have hOE:=HER.o;have hfE:zbh f=0/\(zap f d).1=0:=by
   unfold zaG at hOE;by_cases h1:zbh f≠0
   ·rw[if_pos h1] at hOE;omega
   ·rw[if_neg h1] at hOE;exact⟨by simpa using h1,hOE.symm⟩
  have HCF:=zh (zpp (zld hfE.1));have HCD:=zh (zkZ (zie _ (Nat.le_refl _) hfE.2));clear hOE hfE;go_wp2_with fail;obtain⟨V3,hV3⟩:=nm (V2.alloc (Obj.cells #[.int .i64 0,.slice pq2 d2 pc2,.int .i64 at2] 69));have hb3:Below V2.heap.size V2 V3:=by rw[hV3];exact(Below.refl _ V2).alloc (Nat.le_refl _) _
  rw[<-hV3];have X2d:=zh (X2'.o.below hb3 X2'.o.lt);have HV3:=zh (zaf (HV2.o.trans (hb3.mono HV2.o.size)));have hs0:RowAt V3.drew w.heap.size (f7 f fp fc)/\RowAt V3.drew (w.heap.size+1) (d6 d bp bc kp kc dp dc):=⟨(X0'.o.below hb3 X0'.o.lt).row,(X1'.o.below hb3 X1'.o.lt).row⟩;have HS0:=zh hs0;have hx2:BoxN V3.drew (w.heap.size+1+1) 69 [.int .i64 0,.slice none 0 0,.int .i64 0]:=X2d.o;have HX2:=zh hx2;clear hV3 hb3 hs0 hx2;obtain⟨V3d,hV3d⟩:=nm (V3.drew);refine Late.region (fun w'=>RowAt w' w.heap.size (f7 f fp fc)/\RowAt w' (w.heap.size+1) (d6 d bp bc kp kc dp dc)) (fun _=>false) (by kernel_rfl) ?_;rw[<-hV3d] at HS0 HX2 HV3 ⊢;clear hV3d;refine Late.ta (i:=0) (v:=?_) ?_ HS0.o ?_;rotate_left
  ·intro w' hS;have p0:=hS.1 0 _ rfl;have p1:=hS.1 1 _ rfl;have p2:=hS.1 2 _ rfl;have p3:=hS.1 3 _ rfl;have p4:=hS.1 4 _ rfl;have p5:=hS.1 5 _ rfl;have p6:=hS.1 6 _ rfl;clear hS;go_simp;rfl
  refine Late.ta (i:=2) (v:=?_) ?_ HS0.o ?_;rotate_left
  ·intro w' hS;have r0:=hS.2 0 _ rfl;have r1:=hS.2 1 _ rfl;have r2:=hS.2 2 _ rfl;have r3:=hS.2 3 _ rfl;have r4:=hS.2 4 _ rfl;have r5:=hS.2 5 _ rfl;clear hS;go_simp;rfl
  refine Late.ta (i:=5) (v:=?_) ?_ HS0.o ?_;rotate_left
  ·intro w' hS;clear hS;go_simp;rfl
  refine Late.on (i:=1) fun K hK=>?_;go_simp;refine(HCF.o V3d _ (HF.o.below HV3.o).toM.2).mono ?_;rintro e V4 ⟨p4,c4,rfl,hfd,hb4⟩;have HF4:=zh hfd;have HB4:=zh hb4;have HS4:=zh (And.intro (HS0.o.1.below hb4) (HS0.o.2.below hb4));have X4:=zh (HX2.o.below hb4 HX2.o.lt);have HV4:=zh (HV3.o.trans (hb4.mono HV3.o.size));clear hfd hb4;refine hK _ _ (fun _=>HS4.o) ?_;clear hK K;refine Late.on (i:=3) fun K hK=>?_;go_simp;refine(HCD.o S V4 _ (fun b hb=>HSB.o b (Nat.le_trans HV4.o.size hb)) (HD.o.below HV4.o)).mono ?_;rintro e V5 ⟨bp5,bc5,kp5,kc5,dp5,dc5,rfl,hdd,hb5⟩;have HD5:=zh hdd;have HS5:=zh (And.intro (HS4.o.1.below hb5) (HS4.o.2.below hb5));have X5:=zh (X4.o.below hb5 X4.o.lt);have HV5:=zh (HV4.o.trans (hb5.mono HV4.o.size));have HF5:=zh (M.AtL.mono (T:=S) (fun b hb=>HSB.o b (Nat.le_trans HV3.o.size hb)) (M.AtL.below hb5 HF4.o));clear hdd hb5;refine hK _ _ (fun _=>HS5.o) ?_;clear hK K;refine Late.on (i:=4) fun K hK=>?_;go_simp;refine(znx V5 f d _ _ _ _ _ _ _ _).mono ?_;rintro e V6 ⟨b6,rfl,hn6,hA6,hb6⟩;have HA6:Hid (ArrS S V6 b6 f d d.off d.len):=zh ⟨HF.o.toM.1,_,_,_,_,_,_,_,_,hA6,M.AtL.below hb6 HF5.o,HD5.o.below hb6⟩;have HS6:=zh (And.intro (HS5.o.1.below hb6) (HS5.o.2.below hb6));have hx6:=X5.o.below hb6 X5.o.lt;obtain⟨q0,q1,q2⟩:=rr3 hx6.row;obtain⟨z0,z1,z2⟩:=ff3 hx6;have hl3:=hx6.lt;have HX6:=zh hx6;have HV6:=zh (HV5.o.trans (hb6.mono HV5.o.size));have hz5:=HV5.o.size;have hx5:=X5.o.lt;have HN6:=zh hn6;clear hA6 hb6 hx6;refine hK _ _ (fun _=>HS6.o) ?_;clear hK K;refine Late.on (i:=6) fun K hK=>?_;go_simp;refine hK _ _ (fun _=>HS6.o) ?_;clear hK K;refine Late.on (i:=7) fun K hK=>?_;go_simp;have hne2:w.heap.size≠w.heap.size+1+1:=by omega
  have hne3:w.heap.size+1≠w.heap.size+1+1:=by omega
  have hq:=And.intro (zbi (zbi (zbi HS6.o.1 hne2 0 (.int .i64 0)) hne2 1 (.slice none 0 0)) hne2 2 (.int .i64 0)) (zbi (zbi (zbi HS6.o.2 hne3 0 (.int .i64 0)) hne3 1 (.slice none 0 0)) hne3 2 (.int .i64 0));refine hK _ _ (fun _=>hq) ?_;clear hK K hq;refine Late.done (by kernel_rfl) ?_ _;go_wp2_with fail;refine bodyPost_ret (zlf (i:=4) (j:=5) rfl rfl rfl (zak rfl HX6.o _ _ _).row) rfl ⟨zae HV6.o (by omega) _ _ _,.inr ⟨HER.o.symm,b6,rfl,by have:=HN6.o;omega,HA6.o.below (zop HX6.o)⟩⟩
end Go.Fld
