import Derived.Test.YthocbeghnkacnaaGreatDoorT04
import Derived.Lib.SliceRun
import Derived.Maps.AppendAt
import Derived.Maps.OwnSet
set_option linter.unusedVariables false
set_option linter.unusedSimpArgs false
set_option linter.unnecessarySimpa false
set_option maxRecDepth 100000
set_option maxHeartbeats 16000000
namespace Go.Fld
open Go Go.RowKit Go.Proofs Go.ChangeShapes Go.WideShapes Go.ChangeAt
theorem zhS:Tryz.prog.underlying 50=some (.slice 3):=by kernel_rfl
theorem zjp:Tryz.prog.underlying 3=some (.int .i64):=by kernel_rfl
theorem zkB:(Tryz.prog.info? 3).map (fun i=>(i.zero,i.size,i.bytes))=some (some (.int .i64 0),1,8):=by kernel_rfl
def WayAt (w:World)(d:Nat)(v:Value):Prop:=(d=0/\v=.slice none 0 0)\/∃b o cap,∃xs:List Value,v=.slice (some ⟨b,o,none⟩) d cap/\d<=cap/\cap<=maxLen/\xs.length=d/\(∀(j:Nat) (u:Value),xs[j]?=some u->w.cell? ⟨b,o+j,none⟩=some u)/\∀u ∈ xs,u.oneCell'=true
theorem zh3 {w:World}{d:Nat}{v:Value}(h:WayAt w d v)(hd:d<=64) :
  Calls Tryz.prog 74 #[v] w fun e w'=>∃v' xs,e=.returned v'/\w'.ownsRow w.heap.size 3 1 v' d xs/\(∀u ∈ xs,u.oneCell'=true)/\Below w.heap.size w w':=by
 rcases h with⟨rfl,rfl⟩|⟨b,o,cap,xs,rfl,hc,hm,hx,hcell,h1⟩
 ·have hnil:=Lib.run_eql_slice_nil (P:=Tryz.prog) w 50 3 none 0 0 0 0 zhS
  go_in
  go_wp2_with fail;go_ret;exact⟨_,[],rfl,World.ownsRow_nil _ _ _ _,by simp,Below.refl _ _⟩
 ·obtain⟨i0,hi,hz0,hz1,hz2⟩:=info_parts zkB;have H1:=zh h1;have HC:=zh hcell;have HX:=zh hx;clear h1 hcell hx;unfold maxLen at hm;have hnil:=Lib.run_eql_slice_nil (P:=Tryz.prog) w 50 3 (some ⟨b,o,none⟩) d cap 0 0 zhS
  go_in
  go_wp2_with (at_builtin;refine wpList_append_own_at _ rfl _ _ 50 rfl w.heap.size 3 i0 (.int .i64 0) 1 8 zhS hi hz0 hz1 hz2 rfl (by decide) _ 0 [] rfl ?e2 ⟨b,o,none⟩ d cap xs rfl ?e4 ?e5 H1.o (by unfold maxLen;omega) (by omega) ?e9 ?_)
  case e2=>exact World.ownsRow_made w #[] 0 (Nat.le_refl _) (by unfold maxLen;omega) rfl
  case e4=>rw[HX.o];omega
  case e5=>
   intro j u hj;rw[Addr.add_lit];exact zaa ((Below.refl _ w).alloc (Nat.le_refl _) _) (HC.o j u hj)
  case e9=>simp
  intro v' w1 hown hgrow hnil hat;have HO:=zh hown;have HG:=zh hgrow;clear hown hgrow hnil hat;go_wp2_with fail;go_ret;refine⟨_,xs,rfl,by simpa using HO.o,H1.o,?_⟩;exact((Below.refl _ w).alloc (Nat.le_refl _) _).grown HG.o (by simp) (fun k e=>by simp[Value.ownBlock] at e;omega)
theorem zn1:Tryz.prog.underlying 142=some (.map 3 3):=by kernel_rfl
theorem zrm (w:World):(zeroValue 3).run Tryz.prog w=.ok (.int .i64 0) w:=by
 obtain⟨i0,hi,hz0,hz1,hz2⟩:=info_parts zkB;simp[zeroValue,typeInfo,hi,hz0]
theorem zpi {x:Int}(h:zah x):(Lit.int .i64 x).wf=true:=by
 show(decide (IntKind.i64.min<=x) && decide (x<=IntKind.i64.max))=true;rw[show IntKind.i64.min=-9223372036854775808 from by decide,show IntKind.i64.max=9223372036854775807 from by decide];unfold zah at h;simpa using h
def RowAt (w:World)(b:Nat)(l:List Value):Prop:=∀(j:Nat) (u:Value),l[j]?=some u->w.cell? ⟨b,j,none⟩=some u
theorem RowAt.below {w w':World}{b:Nat}{l:List Value}(h:RowAt w b l)(hb:Below w.heap.size w w'):RowAt w' b l:=fun j u hj=>zaa hb (h j u hj)
theorem RowAt.new (w:World)(l:List Value)(t:TypeId):RowAt (w.alloc (.cells l.toArray t)) w.heap.size l:=fun j u hj=>by
 have h:=heap_alloc_new w (.cells l.toArray t);unfold World.cell?;rw[h];simpa using hj
theorem RowAt.alloc {w:World}{b:Nat}{l:List Value}(h:RowAt w b l)(o:Obj):RowAt (w.alloc o) b l:=h.below ((Below.refl _ w).alloc (Nat.le_refl _) o)
theorem zqn {w:World}{f:Fd}{p:Option Addr}{cap:Nat}(h:FdAt w f (f7 f p cap))(hS:SaysAt w) :
  Calls Tryz.prog 78 #[.agg #[.int .i64 f.k,.int .i64 f.wd,.int .i64 f.id,.int .i64 f.ix,.slice p f.kids.length cap]] w fun e w'=>e=.returned (.bool (zaU f))/\Below w.heap.size w w':=by
 obtain⟨p',cap',e,_,c⟩:=ziM h hS;cases e;exact c
theorem zfb {f:Fd}(h:zaU f=true)(hk:f.k=19\/f.k=20):f.kids≠[]:=by
 intro e;unfold zaU at h;rw[e] at h;rcases hk with hk|hk <;> simp[hk,zbE] at h
def zf8 (q:Option Addr)(qc:Nat)(av:Value)(cs:List Value)(n:Node):Value:=.agg ([Value.slice q n.d qc,av] ++ cs ++ [Value.bool n.inD]).toArray
theorem zlZ {w:World}{n:Node}{q:Option Addr}{qc:Nat}{av:Value}{cs:List Value}(hd:n.d<=65)(ha:FdsAt w n.ahead av)(hf:FdAt w n.f cs)(hS:SaysAt w)
  (ahead:Nat) (hah:ahead<=1000000000) {H:Type} {mb m:Nat} {D:DataW H} (hown:w.ownsMap Tryz.prog 3 (plainElem (H:=H) Tryz.prog 3) mb m D) (ids:List Int) (hids:Maps.has D (.int .i64 n.f.id)=ids.contains n.f.id) :
  Calls Tryz.prog 61 #[zf8 q qc av cs n,.int .i64 ahead,.map (some mb)] w fun e w'=>e=.returned (.int .i64 (za7 n ahead ids))/\Below w.heap.size w w':=by
 obtain⟨d,ah,f,inD⟩:=n;simp only at hd ha hf hids;obtain⟨p,cap,rfl,hk,hnm,ik,iw,ii,ix⟩:=hf.shape;obtain⟨p',cap',e',_,fc⟩:=ziM hf hS;cases e';obtain⟨res,hres⟩:∃r,r=za7 ⟨d,ah,f,inD⟩ ahead ids:=⟨_,rfl⟩;rw[<-hres];unfold za7 at hres;simp only at hres;have HR:=zh hres;have HF:=zh hf;have HA:=zh ha;have HK:=zh hk;have HS:=zh hS;have HO:=zh hown;have HI:=zh hids;obtain⟨ap,acap,rfl,hal,ham,_⟩:=ha;have hkey:=Maps.keyOf_int_mk (P:=Tryz.prog) (k:=3) (q:=.i64) zjp (a:=f.id) (zpi ii);have HKEY:=zh hkey;clear hf hk hS hown hids hres hkey fc;unfold maxLen at ham hnm;unfold zf8;simp only[List.cons_append,List.nil_append]
 go_in
 go_wp2_with (at_lookup;refine wpList_lookup_own_ok_int _ rfl _ _ 142 rfl 3 3 .i64 (Maps.int_keyed zjp) zn1 zjp (zrm _) mb m D rfl ?e1 _ _ rfl HKEY.o ?_)
 case e1=>exact(HO.o.alloc _).alloc _
 intro c _ _;rw[HI.o];generalize ids.contains f.id=again at *;obtain⟨W,hW⟩:=nm (((w.alloc (.cells #[.slice q d qc,.slice ap ah.length acap,.string f.nm,.bool f.nl,.int .i64 f.k,.int .i64 f.wd,.int .i64 f.id,.int .i64 f.ix,.slice p f.kids.length cap,.bool inD] 147)).alloc (.cells #[.int .i64 f.k,.int .i64 f.wd,.int .i64 f.id,.int .i64 f.ix,.slice p f.kids.length cap] 24)));have a1:RowAt W w.heap.size [Value.slice q d qc,.slice ap ah.length acap,.string f.nm,.bool f.nl,.int .i64 f.k,.int .i64 f.wd,.int .i64 f.id,.int .i64 f.ix,.slice p f.kids.length cap,.bool inD]:=by rw[hW];exact(RowAt.new w [Value.slice q d qc,.slice ap ah.length acap,.string f.nm,.bool f.nl,.int .i64 f.k,.int .i64 f.wd,.int .i64 f.id,.int .i64 f.ix,.slice p f.kids.length cap,.bool inD] 147).alloc _
 have a2:RowAt W (w.heap.size+1) [Value.int .i64 f.k,.int .i64 f.wd,.int .i64 f.id,.int .i64 f.ix,.slice p f.kids.length cap]:=by
  have:=RowAt.new (w.alloc (.cells #[.slice q d qc,.slice ap ah.length acap,.string f.nm,.bool f.nl,.int .i64 f.k,.int .i64 f.wd,.int .i64 f.id,.int .i64 f.ix,.slice p f.kids.length cap,.bool inD] 147)) [Value.int .i64 f.k,.int .i64 f.wd,.int .i64 f.id,.int .i64 f.ix,.slice p f.kids.length cap] 24;rw[World.size_alloc] at this;rw[hW];exact this
 have hB:Below w.heap.size w W:=by rw[hW];exact((Below.refl _ w).alloc (Nat.le_refl _) _).alloc (by simp) _
 rw[<-hW];have c0:=a1 0 _ rfl;have c2:=a1 2 _ rfl;have A1:=zh a1;have A2:=zh a2;have HB:=zh hB;clear a1 a2 hW hB;generalize hS:w.heap.size=S at *;have HSz:=zh hS;clear hS;go_wp2_with fail
 ·have e:res=33:=by rw[HR.o,if_pos (by omega)]
  go_ret;exact⟨by rw[e];rfl,by rw[HSz.o];exact HB.o⟩
 ·have e:res=34:=by rw[HR.o,if_neg (by omega),if_pos (by omega)]
  go_ret;exact⟨by rw[e];rfl,by rw[HSz.o];exact HB.o⟩
 have HR:=zh (show _ from by have:=HR.o;rw[if_neg (by omega),if_neg (by omega)] at this;exact this);refine(zlW f.nm (by unfold maxLen;omega) W).mono ?_;rintro e w1 ⟨rfl,rfl⟩;generalize zdw f.nm=nb at *;cases nb with
 | false=>
  have e:res=30:=by rw[HR.o,if_pos rfl]
  go_wp2_with fail;go_ret;exact⟨by rw[e];rfl,by rw[HSz.o];exact HB.o⟩
 | true=>
 have HR:=zh (show _ from by have:=HR.o;rw[if_neg (by decide)] at this;exact this);have c1:=A1.o 1 _ rfl;go_wp2_with fail;have hBS:=HB.o;rw[<-HSz.o] at hBS;refine(zjo (HA.o.below hBS) f.nm S 0 (by simpa using c2)).mono ?_;rintro e W1 ⟨rfl,hb1⟩;clear hBS;generalize (ah.any fun g=>g.nm.toList == f.nm.toList)=tw at *;have HB1:Hid (Below S w W1):=zh (HB.o.trans (hb1.mono (by have:=HSz.o;have:=HB.o.size;omega)));cases tw with
 | true=>
  have e:res=31:=by rw[HR.o,if_pos rfl]
  go_wp2_with fail;go_ret;exact⟨by rw[e];rfl,by rw[HSz.o];exact HB1.o⟩
 | false=>
 have HR:=zh (show _ from by have:=HR.o;rw[if_neg (by decide)] at this;exact this);have B1:=zh (A1.o.below hb1);have B2:=zh (A2.o.below hb1);clear hb1 A1 A2 HB c0 c1 c2;have t0:=B2.o 0 _ rfl;have t1:=B2.o 1 _ rfl;have t2:=B2.o 2 _ rfl;have t3:=B2.o 3 _ rfl;have t4:=B2.o 4 _ rfl;go_wp2_with fail;have hBS:=HB1.o;rw[<-HSz.o] at hBS;refine(zqn (HF.o.below hBS) (HS.o.below hBS)).mono ?_;rintro e W2 ⟨rfl,hb1⟩;clear hBS;have HB2:Hid (Below S w W2):=zh (HB1.o.trans (hb1.mono (by have:=HSz.o;have:=HB1.o.size;omega)));obtain⟨ft,hft⟩:∃b,b=zaU f:=⟨_,rfl⟩;rw[<-hft] at HR ⊢;have HFT:=zh hft;clear hft;cases ft with
 | false=>
  have e:res=32:=by rw[HR.o,if_pos rfl]
  go_wp2_with fail;go_ret;exact⟨by rw[e];rfl,by rw[HSz.o];exact HB2.o⟩
 | true=>
 have HR:=zh (show _ from by have:=HR.o;rw[if_neg (by decide)] at this;exact this);have C1:=zh (B1.o.below hb1);have C2:=zh (B2.o.below hb1);clear hb1 B1 B2 HB1 t0 t1 t2 t3 t4;have c2:=C1.o 2 _ rfl;have c3:=C1.o 3 _ rfl;have c4:=C1.o 4 _ rfl;have c5:=C1.o 5 _ rfl;have c6:=C1.o 6 _ rfl;have c7:=C1.o 7 _ rfl;have c8:=C1.o 8 _ rfl;go_wp2_with fail;have hBS:=HB2.o;rw[<-HSz.o] at hBS;refine(zlX (HF.o.below hBS) (fun h=>zfb (by simpa using HFT.o.symm) (.inr h))).mono ?_;rintro e W3 ⟨rfl,hb1⟩;clear hBS;have HB3:Hid (Below S w W3):=zh (HB2.o.trans (hb1.mono (by have:=HSz.o;have:=HB2.o.size;omega)));generalize zc5 f=nu at *;cases nu with
 | false=>
  have e:res=35:=by rw[HR.o,if_pos rfl]
  go_wp2_with fail;go_ret;exact⟨by rw[e];rfl,by rw[HSz.o];exact HB3.o⟩
 | true=>
 have HR:=zh (show _ from by have:=HR.o;rw[if_neg (by decide)] at this;exact this);have D1:=zh (C1.o.below hb1);have D2:=zh (C2.o.below hb1);clear hb1 C1 C2 HB2 c2 c3 c4 c5 c6 c7 c8;have c9:=D1.o 9 _ rfl;have t0:=D2.o 0 _ rfl;have t4:=D2.o 4 _ rfl;by_cases k19:f.k=19
 ·have hkn:=zfb (by simpa using HFT.o.symm) (.inl k19);cases hkd:f.kids with
  | nil=>exact absurd hkd hkn
  | cons g r=>
  have hC:=HK.o;have E0:=zh (show res=if(inD || (g.nl || again))=true then 36 else 0 by
   rw[HR.o,k19];cases inD <;> simp[zc4,hkd])
  rw[hkd] at hC;obtain⟨kp,kcap,e1,kl,km,hC⟩:=hC;cases e1;obtain⟨b,o,cs',e1,e2,e3⟩:=hC.get 0 (by simp);obtain⟨p',cap',hcs',_⟩:=e3.shape;have g1:=e2 1 (.bool g.nl) (by rw[hcs'];rfl);have e4:o+(0+7*0)+1=o+1:=by omega
  rw[e4] at g1;subst e1;have g1:=zaa (by have:=HB3.o;rw[<-HSz.o] at this;exact this) g1;have gblk:=World.block_lt_of_cell? W3 _ g1;simp only at gblk;rw[k19] at t0;rw[hkd] at t4;clear hC e2 e3 hcs' e4 hkn HR D1 D2;generalize hg:(g :: r).length=gn at *;have hgn:0<gn:=by rw[<-hg];simp
  clear hg;generalize g.nl=gl at *;cases inD <;> cases gl <;> cases again <;>
   (have e:=E0.o
    simp at e;clear E0;go_wp2_with fail;go_ret;exact⟨by rw[e];rfl,by rw[HSz.o];exact HB3.o⟩)
 ·by_cases k20:f.k=20
  ·have E0:=zh (show res=if inD=true then 36 else 0 by
    rw[HR.o,k20];simp)
   rw[k20] at t0;clear HR D1 D2 k19 k20;cases inD <;>
    (have e:=E0.o
     simp at e;clear E0;go_wp2_with fail;go_ret;exact⟨by rw[e];rfl,by rw[HSz.o];exact HB3.o⟩)
  ·have e:res=0:=by
    rw[HR.o];simp[k19,k20]
   have n19:(f.k == 19)=false:=by simpa using k19
   have n20:(f.k == 20)=false:=by simpa using k20
   clear HR D1 D2 k19 k20;cases inD <;>
    (go_wp2_with fail
     go_ret;exact⟨by rw[e];rfl,by rw[HSz.o];exact HB3.o⟩)
end Go.Fld
