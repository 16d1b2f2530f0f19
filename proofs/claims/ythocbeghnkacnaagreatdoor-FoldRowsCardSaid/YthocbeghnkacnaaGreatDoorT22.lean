import Derived.Test.YthocbeghnkacnaaGreatDoorT20
import Derived.WalkLawsBesides
set_option linter.unusedVariables false
set_option linter.unusedSimpArgs false
set_option linter.unnecessarySimpa false
set_option maxRecDepth 100000
set_option maxHeartbeats 16000000
namespace Go.Fld
open Go Go.RowKit Go.Proofs Go.ChangeShapes Go.WideShapes Go.ChangeAt Go.Shelf Go.Fld.Late
structure LeftAt (w w':World)(lb:Nat)(x:Int):Prop where
 grown:w.grownBy w' (some lb)
 box:BoxN w' lb 3 [.int .i64 x]
theorem LeftAt.refl {w:World}{lb:Nat}{x:Int}(h:BoxN w lb 3 [.int .i64 x]):LeftAt w w lb x:=⟨⟨rfl,rfl,rfl,Nat.le_refl _,fun _ _ _=>rfl⟩,h⟩
theorem LeftAt.below {w w' w'':World}{lb:Nat}{x:Int}(h:LeftAt w w' lb x)(hb:Below w'.heap.size w' w''):LeftAt w w'' lb x:=
 ⟨⟨hb.os.trans h.grown.os,hb.tape.trans h.grown.tape,hb.output.trans h.grown.output,Nat.le_trans h.grown.size hb.size,fun i hi hn=>(hb.block i (Nat.lt_of_lt_of_le hi h.grown.size)).trans (h.grown.block i hi hn)⟩,h.box.below hb h.box.lt⟩
theorem LeftAt.set {w w':World}{lb:Nat}{x:Int}(h:LeftAt w w' lb x)(y:Int):LeftAt w (w'.setCell ⟨lb,0,none⟩ (.int .i64 y)) lb y:=
 ⟨⟨h.grown.os,h.grown.tape,h.grown.output,by rw[World.size_setCell];exact h.grown.size,fun i hi hn=>(Below.heap_setCell _ _ _ i (fun e=>hn (by rw[e]))).trans (h.grown.block i hi hn)⟩,h.box.set 0 _⟩
theorem LeftAt.trans {w w' w'':World}{lb:Nat}{x y:Int}(h:LeftAt w w' lb x)(h':LeftAt w' w'' lb y):LeftAt w w'' lb y:=
 ⟨⟨h'.grown.os.trans h.grown.os,h'.grown.tape.trans h.grown.tape,h'.grown.output.trans h.grown.output,Nat.le_trans h.grown.size h'.grown.size,fun i hi hn=>(h'.grown.block i (Nat.lt_of_lt_of_le hi h.grown.size) hn).trans (h.grown.block i hi hn)⟩,h'.box⟩
theorem LeftAt.base {w0 w w':World}{lb:Nat}{x:Int}(h:LeftAt w w' lb x)(hb:Below w0.heap.size w0 w)(hl:w0.heap.size<=lb):Below w0.heap.size w0 w':=
 ⟨h.grown.os.trans hb.os,h.grown.tape.trans hb.tape,h.grown.output.trans hb.output,Nat.le_trans hb.size h.grown.size,fun i hi=>(h.grown.block i (Nat.lt_of_lt_of_le hi hb.size) (fun e=>by cases e;omega)).trans (hb.block i hi)⟩
abbrev zkC (e:Ending):Prop:=e=.panicked [{ v:=.iface 168 (.agg #[]),recovered:=false }]
def zor (w:World)(lb:Nat)(x n:Int)(e:Ending)(w':World):Prop:=LeftAt w w' lb (x-n)/\((x-n<0/\zkC e)\/(0<=x-n/\e=.returned (.tuple #[])))
theorem zc1 {w:World}{lb:Nat}{x:Int}(hb:BoxN w lb 3 [.int .i64 x])(hx:0<=x/\x<=4194304)(n:Int)(hn:0<=n/\n<=9223372036854775807) :
  Calls Tryz.prog 92 #[.pointer (some ⟨lb,0,none⟩),.int .i64 n] w (zor w lb x n):=by
 have p0:=hb.row 0 _ rfl;have z0:=hb.frozen 0;have hlt:=hb.lt;have HB:=zh hb;clear hb;by_cases h:x-n<0
 ·have HH:=zh h
  go_in
  go_wp2_with fail;exact⟨rfl,(LeftAt.refl HB.o).set _,.inl ⟨HH.o,rfl⟩⟩
 ·have HH:=zh (show 0<=x-n by omega)
  go_in
  go_wp2_with fail;go_end0;exact⟨(LeftAt.refl HB.o).set _,.inr ⟨HH.o,rfl⟩⟩
def zcv (k:Int)(s:ByteArray)(r:Nat):Int:=if 3<=k/\k<=6 then zbc s (r*(zaK k).toNat) (zaK k).toNat else wrap64 (zbA s (r*(zaK k).toNat) (zaK k).toNat)
theorem znm (k:Int)(s:ByteArray)(r:Nat):-9223372036854775808<=zcv k s r/\zcv k s r<=9223372036854775807:=by
 unfold zcv;split
 ·exact zgu _ _ _
 ·generalize zbA _ _ _=x;unfold wrap64;omega
theorem zhq {k:Int}{m:Nat}(h:zaK k=m)(h1:1<=m):m=1\/m=2\/m=4\/m=8:=by
 unfold zaK at h
 repeat (first|(split at h;omega)|omega)
theorem zgW {w0 w:World}(hb0:Below w0.heap.size w0 w){ab:Nat}{f:Fd}{d:Dt}{fr n:Int}(hA:ArrAt w0 w ab f d fr n)(hb1:1<d.bufs.length)(k:Int){m:Nat}(hk:zaK k=m)(hm:1<=m)(r:Nat)(hr:r<=1000000) :
  Calls Tryz.prog 229 #[.pointer (some ⟨ab,0,none⟩),.int .i64 k,.int .i64 r] w (zaM w (.int .i64 (zcv k d.bufs[1] r))):=by
 have hmc:=zhq hk hm;have HM:=zh hmc;have HK:=zh hk;have HBY:=zh (zcg hb0 hA 1 hb1);have HB0:=zh hb0;obtain⟨a,ha⟩:=nm (r*m);have hm8:m<=8:=by omega
 have hab:a<=8000000:=by rw[ha];exact Nat.mul_le_mul hr hm8
 have m1:(r:Int)*(m:Int)=(a:Int):=by rw[ha];exact(Int.natCast_mul r m).symm
 have M1:=zh m1;have MW:Hid (wrap64 ((r:Int)*m)=a):=zh (by rw[m1];unfold wrap64;omega);have HA':=zh ha;clear hA hb0 hk hm hmc ha m1;by_cases h36:3<=k/\k<=6
 ·have HE:=zh (show zcv k d.bufs[1] r=zbc d.bufs[1] a m by unfold zcv;rw[if_pos h36,HK.o,Int.toNat_natCast,HA'.o]);rw[HE.o];obtain⟨h3,h6⟩:=h36;generalize d.bufs[1]=s at *
  go_in
  go_wp2_with fail;refine(zfU k w).mono ?_;rintro e W1 ⟨rfl,rfl⟩;rw[HK.o];go_wp2_with fail;refine HBY.o.mono ?_;rintro e W3 ⟨qq,cc,rfl,hat,hb3⟩;have HAT:=zh (M.At.below (HB0.o.trans (hb3.mono HB0.o.size)) hat);have HB3:=zh hb3;have mm:=M1.o;clear hat hb3;go_wp2_with fail;refine(zdl HAT.o a m (by omega) HM.o).mono ?_;rintro e W4 ⟨rfl,hb4⟩;have HB4:=zh (HB3.o.trans (hb4.mono HB3.o.size));clear hb4 mm;go_wp2_with fail;go_ret;exact⟨rfl,HB4.o⟩
 ·have HE:=zh (show zcv k d.bufs[1] r=wrap64 (zbA d.bufs[1] a m) by unfold zcv;rw[if_neg h36,HK.o,Int.toNat_natCast,HA'.o]);rw[HE.o];have h3:3<=k:=by
   have h:=HK.o;have:=HM.o;unfold zaK at h;omega
  have h6:¬k<=6:=fun h=>h36 ⟨h3,h⟩;clear h36;generalize d.bufs[1]=s at *;obtain⟨x,hx⟩:∃x,zbA s a m=x:=⟨_,rfl⟩;have HX:=zh hx;rw[hx];have hxb:=zfX s a m;rw[hx] at hxb;clear hx
  go_in
  go_wp2_with fail;refine(zfU k w).mono ?_;rintro e W1 ⟨rfl,rfl⟩;rw[HK.o];go_wp2_with fail;refine HBY.o.mono ?_;rintro e W3 ⟨qq,cc,rfl,hat,hb3⟩;have HAT:=zh (M.At.below (HB0.o.trans (hb3.mono HB0.o.size)) hat);have HB3:=zh hb3;have mm:=M1.o;clear hat hb3;go_wp2_with fail;refine(ziY HAT.o a m (by omega) HM.o).mono ?_;rintro e W4 ⟨rfl,hb4⟩;rw[HX.o];have HB4:=zh (HB3.o.trans (hb4.mono HB3.o.size));clear hb4 mm;go_wp2_with fail;go_ret;exact⟨rfl,HB4.o⟩
def zd3 (s:ByteArray)(r:Nat)(most:Int):Option (Int × Int):=if zbc s (4*r) 4<0\/zbc s (4*r+4) 4<zbc s (4*r) 4\/most<zbc s (4*r+4) 4 then none else some (zbc s (4*r) 4,zbc s (4*r+4) 4)
def zmL (w:World)(o:Option (Int × Int))(e:Ending)(w':World):Prop:=Below w.heap.size w w'/\((o=none/\zkC e)\/∃p q,o=some (p,q)/\e=.returned (.tuple #[.int .i64 p,.int .i64 q]))
theorem zgX {w0 w:World}(hb0:Below w0.heap.size w0 w){ab:Nat}{f:Fd}{d:Dt}{fr n:Int}(hA:ArrAt w0 w ab f d fr n)(hb1:1<d.bufs.length)(r:Nat)(hr:r<=1000000)(most:Int) :
  Calls Tryz.prog 217 #[.pointer (some ⟨ab,0,none⟩),.int .i64 r,.int .i64 most] w (zmL w (zd3 d.bufs[1] r most)):=by
 have HBY:=zh (zcg hb0 hA 1 hb1);have HB0:=zh hb0;clear hA hb0;generalize d.bufs[1]=s at *;obtain⟨p,hp⟩:∃p,zbc s (4*r) 4=p:=⟨_,rfl⟩;obtain⟨q,hq⟩:∃q,zbc s (4*r+4) 4=q:=⟨_,rfl⟩;have HE:=zh (show zd3 s r most=if p<0\/q<p\/most<q then none else some (p,q) by unfold zd3;rw[hp,hq]);have HP:=zh hp;have HQ:=zh hq;clear hp hq;obtain⟨o,ho⟩:∃o,zd3 s r most=o:=⟨_,rfl⟩;rw[ho] at HE ⊢;clear ho
 go_in
 go_wp2_with fail;refine HBY.o.mono ?_;rintro e W1 ⟨qq,cc,rfl,hat,hb1'⟩;have HAT:=zh (M.At.below (HB0.o.trans (hb1'.mono HB0.o.size)) hat);have HB1:=zh hb1';clear hat hb1';obtain⟨V,hV,a1,hBV⟩:=zao W1 202 [.slice qq s.size s.size,.int .i64 0,.pointer none];have HBV:=zh hBV;have A1:=zh a1;have HV:=zh hV;obtain⟨l0,l1,l2⟩:=rr3 a1.row;have hlt:=a1.lt;clear hBV a1 hV;unfold zcj;go_wp2_with fail;rw[<-HV.o];clear HV;refine(zdl (HAT.o.below HBV.o) (4*r) 4 (by omega) (by omega)).mono ?_;rintro e W2 ⟨rfl,hb2⟩;rw[HP.o];have HB2:=zh (HBV.o.trans (hb2.mono HBV.o.size));have b1:=A1.o.below hb2 A1.o.lt;obtain⟨m0,m1,m2⟩:=rr3 b1.row;have hlt2:=b1.lt;clear hb2 b1 l0 l1 l2 hlt;go_wp2_with fail;refine(zdl (HAT.o.below HB2.o) (4*r+4) 4 (by omega) (by omega)).mono ?_;rintro e W3 ⟨rfl,hb3⟩;rw[HQ.o];have HB3:=zh (HB1.o.trans ((HB2.o.trans (hb3.mono HB2.o.size)).mono HB1.o.size));clear hb3 m0 m1 m2 hlt2;by_cases h1:p<0
 ·have HN:=zh (show o=none by rw[HE.o,if_pos (.inl h1)]);go_wp2_with fail;exact⟨rfl,HB3.o,.inl ⟨HN.o,rfl⟩⟩
 by_cases h2:q<p
 ·have HN:=zh (show o=none by rw[HE.o,if_pos (.inr (.inl h2))]);have h1d:decide (p<0)=false:=decide_eq_false h1;go_wp2_with fail;exact⟨rfl,HB3.o,.inl ⟨HN.o,rfl⟩⟩
 by_cases h3:most<q
 ·have HN:=zh (show o=none by rw[HE.o,if_pos (.inr (.inr h3))]);have h1d:decide (p<0)=false:=decide_eq_false h1;have h2d:decide (q<p)=false:=decide_eq_false h2;go_wp2_with fail;exact⟨rfl,HB3.o,.inl ⟨HN.o,rfl⟩⟩
 ·have HN:=zh (show o=some (p,q) by rw[HE.o,if_neg (by rintro(h|h|h);exact h1 h;exact h2 h;exact h3 h)]);have h1d:decide (p<0)=false:=decide_eq_false h1;have h2d:decide (q<p)=false:=decide_eq_false h2;have h3d:decide (most<q)=false:=decide_eq_false h3;go_wp2_with fail;go_ret2;exact⟨HB3.o,.inr ⟨p,q,HN.o,rfl⟩⟩
def zcT (f:Fd)(d:Dt)(r:Nat):Option (Int × Int):=if f.k=16 then some ((r:Int)*f.wd,((r:Int)+1)*f.wd) else zd3 ((d.bufs[1]?).getD ByteArray.empty) r (((d.kids[0]?).map Dt.len).getD 0)
theorem zmj {w0 w:World}(hb0:Below w0.heap.size w0 w){ab:Nat}{f:Fd}{d:Dt}{fr n:Int}(hA:ArrAt w0 w ab f d fr n)(h16:f.k=16->1<=f.wd/\f.wd<=64)(h15:f.k≠16->1<d.bufs.length)(hkd:0<d.kids.length)(r:Nat)(hr:r<=1000000) :
  Calls Tryz.prog 224 #[.pointer (some ⟨ab,0,none⟩),.int .i64 r] w (zmL w (zcT f d r)):=by
 have HA:=zh hA;have HB0:=zh hb0;obtain⟨fp,fc,bp,bc,kp,kc,dp,dc,hbx,hf,hd⟩:=hA.at';unfold zdt at hbx;obtain⟨fam,hfam⟩:∃fam,Value.iface fam (.agg #[])=zdS f.k:=⟨_,rfl⟩;rw[<-hfam] at hbx;clear hfam;have hki:=DAt.kidsAt hd;obtain⟨kb,ko,b3p,b3c,k3p,k3c,d3p,d3c,rfl,-,t0,-,-,-,-,-,-⟩:=zci hki 0 hkd;obtain⟨-,hl1,hl2⟩:=zam hki;unfold maxLen at hl2;simp only[List.length_map] at hl1;simp only[Nat.zero_mul,Nat.add_zero] at t0;have x0:=zaa hb0 t0;have p2:=hbx.row 2 _ rfl;have p3:=hbx.row 3 _ rfl;have p11:=hbx.row 11 _ rfl;have hlt:=hbx.lt;have H15:=zh h15;have H16:=zh h16;clear hA hb0 hbx hf hd hki t0 h15 h16;by_cases hk:f.k=16
 ·have h16:=H16.o hk;have q:(f.k == 16)=true:=by simpa using hk
  obtain⟨m,hm⟩:=Int.eq_ofNat_of_zero_le (show 0<=f.wd by omega);have HE:=zh (show zcT f d r=some ((r:Int)*(m:Int),((r:Int)+1)*(m:Int)) by unfold zcT;rw[if_pos hk,hm]);rw[HE.o];rw[hm] at p3 h16;obtain⟨a,ha⟩:=nm (r*m);have hm64:m<=64:=by omega
  have hab:a<=64000000:=by rw[ha];exact Nat.mul_le_mul hr hm64
  have m1:(r:Int)*(m:Int)=(a:Int):=by rw[ha];exact(Int.natCast_mul r m).symm
  have m2:((r:Int)+1)*(m:Int)=((a+m:Nat):Int):=by rw[Int.add_mul,m1,Int.one_mul];exact(Int.natCast_add a m).symm
  have M1:Hid (IntKind.i64.wrap ((r:Int)*m)=a):=zh (by rw[m1];exact IntWalk.i64_in _ (by omega));have M2:Hid (IntKind.i64.wrap (((r:Int)+1)*m)=((a+m:Nat):Int)):=zh (by rw[m2];exact IntWalk.i64_in _ (by omega));have M3:Hid (IntKind.i64.wrap ((r:Int)+1)=(r:Int)+1):=zh (IntWalk.i64_in _ (by omega));rw[m1,m2];clear hk hm ha m1 m2
  go_in
  go_wp2_with fail;have w1:=M1.o;have w2:=M2.o;have w3:=M3.o
  go_quiet (fail)
  clear w1 w2 w3;go_wp2_with fail;go_ret2;exact⟨⟨rfl,rfl,rfl,Nat.le_refl _,fun _ _=>rfl⟩,.inr ⟨_,_,rfl,rfl⟩⟩
 ·have hb1:=H15.o hk;have q:(f.k == 16)=false:=by simpa using hk
  have HE:=zh (show zcT f d r=zd3 d.bufs[1] r d.kids[0].len by unfold zcT;rw[if_neg hk,List.getElem?_eq_getElem hb1,List.getElem?_eq_getElem hkd];rfl);have HC:=zh (zgX HB0.o HA.o hb1 r hr d.kids[0].len);have hkz:(0:Int)<(d.kids.length:Int):=by omega
  rw[HE.o];clear hk;generalize zd3 d.bufs[1] r d.kids[0].len=o at *
  go_in
  go_wp2_with fail;refine HC.o.mono ?_;rintro e W1 ⟨hb1,⟨hn,rfl⟩|⟨p,q,ho,rfl⟩⟩
  ·have HB1:=zh hb1;have HN:=zh hn;clear hb1 hn;go_wp2_with fail;exact⟨rfl,HB1.o,.inl ⟨HN.o,rfl⟩⟩
  ·have HB1:=zh hb1;have HN:=zh ho;clear hb1 ho;go_wp2_with fail;go_ret2;exact⟨HB1.o,.inr ⟨p,q,HN.o,rfl⟩⟩
def zdD (s:ByteArray)(o:Nat)(r:Int):Nat->Nat->Option Nat
 | 0,_=>none
 | n+1,i=>if r<zbc s (4*(o+i)) 4 then some i else zdD s o r n (i+1)
theorem zos {s:ByteArray}{o i n:Nat}{r:Int}(h:r<zbc s (4*(o+i)) 4)(hi:i<n):zdD s o r (n-i) i=some i:=by
 obtain⟨m,hm⟩:∃m,n-i=m+1:=⟨n-i-1,by omega⟩;rw[hm];unfold zdD;rw[if_pos h]
theorem zot {s:ByteArray}{o i n:Nat}{r:Int}(h:¬r<zbc s (4*(o+i)) 4)(hi:i<n):zdD s o r (n-i) i=zdD s o r (n-(i+1)) (i+1):=by
 obtain⟨m,hm⟩:∃m,n-i=m+1:=⟨n-i-1,by omega⟩;rw[hm,show n-(i+1)=m by omega];conv=>lhs;unfold zdD;rw[if_neg h]
theorem zmM {s:ByteArray}{o:Nat}{r:Int}:∀ {n i k:Nat},zdD s o r n i=some k->k<i+n
 | n+1,i,k,h=>by
  unfold zdD at h;split at h
  ·cases h;omega
  ·have:=zmM h;omega
def zqE (w:World)(o:Option Nat)(e:Ending)(w':World):Prop:=Below w.heap.size w w'/\((o=none/\zkC e)\/∃p,o=some p/\e=.returned (.int .i64 p))
theorem zou {w0 w:World}(hb0:Below w0.heap.size w0 w){ab:Nat}{f:Fd}{d:Dt}{fr n:Int}(hA:ArrAt w0 w ab f d fr n)(h20:f.k=20)(hkd:0<(zac d).length)(hb1:1<(zac d)[0].bufs.length){m o:Nat}(hm:(zac d)[0].len=m)(ho:(zac d)[0].off=o)(hmo:m<=4096/\o<=4096)(r:Nat)(hr:r<=1000000) :
  Calls Tryz.prog 231 #[.pointer (some ⟨ab,0,none⟩),.int .i64 r] w (zqE w (zdD (zac d)[0].bufs[1] o r m 0)):=by
 have HC:=zh (zdT hb0 hA 0 ⟨fun _=>.inl rfl,fun h=>absurd h20 h⟩ hkd);have HB0:=zh hb0;have HMO:=zh (And.intro hm ho);clear hA hb0 hm ho;obtain⟨hm1,ho1⟩:=hmo;obtain⟨res,hres⟩:∃res,zdD (zac d)[0].bufs[1] o r m 0=res:=⟨_,rfl⟩;rw[hres];have HRES:=zh hres;clear hres;generalize hg:(zac d)[0]=g at *;have HG:=zh hg;clear hg
 go_in
 go_wp2_with fail;refine HC.o.mono ?_;rintro e W1 ⟨b1,rfl,hn1,hA1,hbe1⟩;rw[HMO.o.1,HMO.o.2] at hA1;obtain⟨fp1,fc1,bp1,bc1,kp1,kc1,dp1,dc1,hbx1,-,-⟩:=hA1.at';unfold zdt at hbx1;have HB1:=zh hbe1;have HA1:=zh hA1;have c13:=hbx1.row 13 _ rfl;have c14:=hbx1.row 14 _ rfl;have HBz1:=zh (HB0.o.trans (hbe1.mono HB0.o.size));clear hA1 hbx1 hbe1 hn1;go_wp2_with fail;have C13:=zh c13;clear c13 c14
 go_loopw [15] (fun i wr=>∃k:Nat,k<=m/\i=.int .i64 k/\Hid (Below W1.heap.size W1 wr)/\Hid (zdD g.bufs[1] o r (m-k) k=res)) (fun i _=>m-(intOf i).toNat)
 case atStart=>exact⟨0,by omega,rfl,zh (Below.refl _ _),zh (by rw[Nat.sub_zero];exact HRES.o)⟩
 case round=>
  obtain⟨k,hk,rfl,HB,HR⟩:=hrel;by_cases hlt:k<m
  ·have hs0:wr.drew.cell? ⟨b1,13,none⟩=some (.int .i64 o):=zaa (zaf HB.o) C13.o;have HS0:=zh hs0;have HBd:=zh (zaf HB.o);have HBY:=zh (zcg (HBz1.o.trans ((zaf HB.o).mono HBz1.o.size)) (HA1.o.below (zaf HB.o)) 1 hb1);have w1:IntKind.i64.wrap ((o:Int)+k)=(o:Int)+k:=IntWalk.i64_in _ (by omega);have w2:IntKind.i64.wrap (4*((o:Int)+k))=4*((o:Int)+k):=IntWalk.i64_in _ (by omega);have W1':=zh w1;have W2':=zh w2;have HKK:=zh (And.intro hlt (And.intro hm1 ho1));clear hs0 w1 w2;obtain⟨wd,hwd⟩:=nm (wr.drew);go_wp2_with fail;refine Late.region (fun w'=>w'.cell? ⟨b1,13,none⟩=some (.int .i64 o)) (fun _=>false) (by kernel_rfl) ?_;rw[<-hwd] at HS0 HBd HBY ⊢;clear hwd;refine Late.ta (i:=0) (v:=?_) ?_ HS0.o ?_;rotate_left
   ·intro w' hS;clear hS;go_simp;rfl
   refine Late.ta (i:=2) (v:=?_) ?_ HS0.o ?_;rotate_left
   ·intro w' hS;clear hS;go_simp;rfl
   refine Late.ta (i:=3) (v:=?_) ?_ HS0.o ?_;rotate_left
   ·intro w' hS;clear hS;go_simp;rfl
   refine Late.ta (i:=4) (v:=?_) ?_ HS0.o ?_;rotate_left
   ·intro w' hS;clear hS;go_simp;rfl
   refine Late.ta (i:=5) (v:=?_) ?_ HS0.o ?_;rotate_left
   ·intro w' hS;have p1:=hS;clear hS;go_simp;rfl
   refine Late.ta (i:=6) (v:=?_) ?_ HS0.o ?_;rotate_left
   ·intro w' hS;clear hS;go_simp;rfl
   refine Late.ta (i:=7) (v:=?_) ?_ HS0.o ?_;rotate_left
   ·intro w' hS;clear hS;have w1:=W1'.o;go_simp;rfl
   refine Late.ta (i:=8) (v:=?_) ?_ HS0.o ?_;rotate_left
   ·intro w' hS;clear hS;have w2:=W2'.o;go_simp;rfl
   refine Late.on (i:=1) fun K hK=>?_;go_simp;refine HBY.o.mono ?_;rintro e W3 ⟨qq,cc,rfl,hat,hb3⟩;have HAT:=zh (M.At.below (HBz1.o.trans ((HBd.o.trans (hb3.mono HBd.o.size)).mono HBz1.o.size)) hat);have HS3:=zh (zaa hb3 HS0.o);have HB3:=zh (HBd.o.trans (hb3.mono HBd.o.size));clear hat hb3;refine hK _ _ (fun _=>HS3.o) ?_;clear hK K;refine Late.on (i:=9) fun K hK=>?_;go_simp;have hsg:=zdl HAT.o (4*(o+k)) 4 (by have:=HKK.o;omega) (by omega);rw[show((4*(o+k):Nat):Int)=4*((o:Int)+(k:Int)) by omega] at hsg;refine hsg.mono ?_;clear hsg;rintro e W4 ⟨rfl,hb4⟩;have HS4:=zh (zaa hb4 HS3.o);have HB4:=zh (HB3.o.trans (hb4.mono HB3.o.size));obtain⟨q,hq⟩:∃q,zbc g.bufs[1] (4*(o+k)) 4=q:=⟨_,rfl⟩;rw[hq];have HQ:=zh hq;clear hb4 hq;refine hK _ _ (fun _=>HS4.o) ?_;clear hK K;refine Late.on (i:=10) fun K hK=>?_;go_simp;refine hK _ _ (fun _=>HS4.o) ?_;clear hK K;refine Late.ta (i:=11) (v:=?_) ?_ HS4.o ?_;rotate_left
   ·intro w' hS;clear hS;go_simp;rfl
   refine Late.ta (i:=12) (v:=?_) ?_ HS4.o ?_;rotate_left
   ·intro w' hS;clear hS;go_simp;rfl
   refine Late.on (i:=13) fun K hK=>?_;go_simp;refine hK _ _ (fun _=>HS4.o) ?_;clear hK K;refine Late.on (i:=14) fun K hK=>?_;go_simp;refine hK _ _ (fun _=>HS4.o) ?_;clear hK K;refine Late.done (by kernel_rfl) ?_ _;by_cases hgt:(r:Int)<q
   ·have HN:=zh (show res=some k by rw[<-HR.o];exact zos (by rw[HQ.o];exact hgt) hlt);go_wp2_with fail;go_ret;exact⟨HB1.o.trans (HB4.o.mono HB1.o.size),.inr ⟨k,HN.o,rfl⟩⟩
   ·have HN:=zh (show zdD g.bufs[1] o r (m-(k+1)) (k+1)=res by rw[<-HR.o];exact(zot (by rw[HQ.o];exact hgt) hlt).symm);go_wp2_with fail;go_roundw
    case rel=>exact⟨k+1,by omega,by go_num,HB4,HN⟩
    case measure=>simp[intOf];omega
  ·have HN:=zh (show res=none by rw[<-HR.o,show m-k=0 by omega];rfl);go_wp2_with fail;exact⟨rfl,HB1.o.trans (HB.o.mono HB1.o.size),.inl ⟨HN.o,rfl⟩⟩
abbrev Rd:=Option (Vl × Int)
abbrev RdF:=Fd->Dt->Nat->Int->Rd
def flatV (f:Fd)(d:Dt)(r:Nat)(x:Int):Rd:=
 if x-16<0 then none
 else if f.k=2 then some (.mk false (wrap64 (bits BinOp.and IntKind.u8 (zaq (buf d 1) (r / 8) / 2 ^ (r % 8)) 1)) ⟨#[]⟩ [],x-16)
 else if f.k=14 then(if x-16-f.wd<0 then none else some (.mk false 0 (zbB (buf d 1) (r*f.wd.toNat) f.wd.toNat) [],x-16-f.wd))
 else some (.mk false (zcv f.k (buf d 1) r) ⟨#[]⟩ [],x-16)
def zgA (f:Fd)(d:Dt)(r:Nat)(x:Int):Rd:=
 match zd3 (buf d 1) r (buf d 2).size with
 | none=>none
 | some (p,q)=>if x-(16+q-p)<0 then none
  else if f.k=12/\Lib.validD (zbB (buf d 2) p.toNat (q-p).toNat).data.toList=false then none
  else some (.mk false 0 (zbB (buf d 2) p.toNat (q-p).toNat) [],x-(16+q-p))
def zbD (g:Nat->Int->Rd):Nat->Nat->List Vl->Int->Option (List Vl × Int)
 | 0,_,acc,x=>some (acc,x)
 | n+1,i,acc,x=>match g i x with
  | none=>none
  | some (v,y)=>zbD g n (i+1) (acc ++ [v]) y
def zdE (rec:RdF)(f:Fd)(d:Dt)(k i:Nat)(x:Int):Rd:=match (zac d)[k]? with
 | none=>none
 | some e=>rec (zat f k) e (e.off.toNat+i) x
def zgB (rec:RdF)(f:Fd)(d:Dt)(r:Nat)(x:Int):Rd:=
 match zcT f d r with
 | none=>none
 | some (p,q)=>if x-16<0 then none else(zbD (zdE rec f d 0) (q-p).toNat p.toNat [] (x-16)).map fun lz=>(.mk false 0 ⟨#[]⟩ lz.1,lz.2)
def zeP (rec:RdF)(f:Fd)(d:Dt)(r:Nat)(x:Int):Rd:=
 if x-16<0 then none else(zbD (fun k y=>zdE rec f d k r y) d.kids.length 0 [] (x-16)).map fun lz=>(.mk false 0 ⟨#[]⟩ lz.1,lz.2)
def zek (rec:RdF)(f:Fd)(d:Dt)(r:Nat)(x:Int):Rd:=
 if(d.kids.length:Int)<=zaq (buf d 0) r\/zbc (buf d 1) (4*r) 4<0\/((d.kids[(zaq (buf d 0) r).toNat]?).map Dt.len).getD 0<=zbc (buf d 1) (4*r) 4 then none
 else if x-16<0 then none
 else(zdE rec f d (zaq (buf d 0) r).toNat (zbc (buf d 1) (4*r) 4).toNat (x-16)).map fun vz=>(.mk false (zaq (buf d 0) r) ⟨#[]⟩ [vz.1],vz.2)
def zfN (rec:RdF)(f:Fd)(d:Dt)(r:Nat)(x:Int):Rd:=
 if IntKind.u64.wrap (((d.dict[0]?).map Dt.len).getD 0)<=IntKind.u64.wrap (zcv f.ix (buf d 1) r) then none
 else zdE rec f d 0 (IntKind.u64.wrap (zcv f.ix (buf d 1) r)).toNat x
def zfO (rec:RdF)(f:Fd)(d:Dt)(r:Nat)(x:Int):Rd:=
 match zdD (buf (zbM d) 1) (zbM d).off.toNat r (zbM d).len.toNat 0 with
 | none=>none
 | some i=>zdE rec f d 1 i x
def zeQ (rec:RdF)(f:Fd)(d:Dt)(r:Nat)(x:Int):Rd:=
 if f.k=12\/f.k=13 then zgA f d r x else if f.k=15\/f.k=16 then zgB rec f d r x else if f.k=17 then zeP rec f d r x
 else if f.k=18 then zek rec f d r x else if f.k=19 then zfN rec f d r x else if f.k=20 then zfO rec f d r x else flatV f d r x
def zay:Nat->RdF
 | 0,_,_,_,_=>none
 | n+1,f,d,r,x=>if zaF f.k d.bufs r=true then(if x-16<0 then none else some (.mk true 0 ⟨#[]⟩ [],x-16)) else zeQ (zay n) f d r x
def zcb (w:World)(lb:Nat)(o:Rd)(e:Ending)(w':World):Prop:=
 (o=none/\zkC e/\∃y,LeftAt w w' lb y)\/∃v y vs,o=some (v,y)/\e=.returned (.agg vs.toArray)/\VAt (fun b=>w.heap.size<=b) w' v vs/\LeftAt w w' lb y/\0<=y/\y<=4194304
structure RdIn (w0 w:World)(ab lb:Nat)(f:Fd)(d:Dt)(fr n:Int)(r:Nat)(x:Int):Prop where
 b0:Below w0.heap.size w0 w
 arr:ArrAt w0 w ab f d fr n
 box:BoxN w lb 3 [.int .i64 x]
 far:w0.heap.size<=lb/\ab≠lb
 x:0<=x/\x<=4194304
 well:(zap f d).1=0
 row:d.off.toNat<=r/\(r:Int)<d.off+d.len
 tabs:Lib.Utf8Tabs 1 2 w0
theorem zqF {fn:Func}{i:Nat}(hfn:fn.results=#[.cell i 39]){W:World}{tmps:Array Value}{rb:Nat}{c0 c1 c2 c3:Value}(ht:tmps.getD i undef=.pointer (some ⟨rb,0,none⟩))(hw:RowAt W rb [c0,c1,c2,c3]) :
  (results fn tmps).run Tryz.prog W=.ok (.agg #[c0,c1,c2,c3]) W:=by
 have h0:=hw 0 _ rfl;have h1:=hw 1 _ rfl;have h2:=hw 2 _ rfl;have h3:=hw 3 _ rfl;rw[Array.getD_eq_getD_getElem?] at ht;simp[results,hfn,go_sem,ht,h0,h1,h2,h3]
theorem zbS {fn:Func}{i:Nat}(hfn:fn.results=#[.cell i 39]){w W:World}{rb lb:Nat}{o:Rd}{v:Vl}{y:Int}{c0 c1 c2 c3:Value}(hbx:BoxN W rb 39 [c0,c1,c2,c3])(ho:o=some (v,y))(hv:VAt (fun b=>w.heap.size<=b) W v [c0,c1,c2,c3])(hl:LeftAt w W lb y)(hy:0<=y/\y<=4194304)
  {tmps:Array Value} (ht:tmps.getD i undef=.pointer (some ⟨rb,0,none⟩)):bodyPost Tryz.prog fn (zcb w lb o) Exit.ret { tmps:=tmps,defers:=[] } W:=
 bodyPost_ret (zqF hfn ht hbx.row) rfl (.inr ⟨v,y,[c0,c1,c2,c3],ho,rfl,hv,hl,hy⟩)
theorem zaT {fn:Func}{w W:World}{lb:Nat}{o:Rd}{y:Int}(ho:o=none)(hl:LeftAt w W lb y){tmps:Array Value} :
  bodyPost Tryz.prog fn (zcb w lb o) (Exit.panic [{ v:=.iface 168 (.agg #[]),recovered:=false }]) { tmps:=tmps,defers:=[] } W:=
 ⟨rfl,.inl ⟨ho,rfl,y,hl⟩⟩
abbrev put4 (W:World)(rb:Nat)(c0 c1 c2 c3:Value):World:=(((W.setCell ⟨rb,0,none⟩ c0).setCell ⟨rb,1,none⟩ c1).setCell ⟨rb,2,none⟩ c2).setCell ⟨rb,3,none⟩ c3
theorem zaS {W:World}{rb:Nat}{t:TypeId}{l:List Value}(hl:l.length=4)(h:BoxN W rb t l)(c0 c1 c2 c3:Value):BoxN (put4 W rb c0 c1 c2 c3) rb t [c0,c1,c2,c3]:=by
 have b:=(((h.set 0 c0).set 1 c1).set 2 c2).set 3 c3
 match l,hl with
 | [_,_,_,_],_=>exact b
theorem zaQ {W:World}{rb k:Nat}(hk:k≠rb)(c0 c1 c2 c3:Value):(put4 W rb c0 c1 c2 c3).heap[k]?=W.heap[k]?:=by
 show(World.setCell _ _ _).heap[k]?=_;rw[Below.heap_setCell _ _ _ k hk,Below.heap_setCell _ _ _ k hk,Below.heap_setCell _ _ _ k hk,Below.heap_setCell _ _ _ k hk]
theorem zbP {W w:World}{n rb:Nat}(h:Below n w W)(hn:n<=rb)(c0 c1 c2 c3:Value):Below n w (put4 W rb c0 c1 c2 c3):=
 (((h.setCell (p:=⟨rb,0,none⟩) hn c0).setCell (p:=⟨rb,1,none⟩) hn c1).setCell (p:=⟨rb,2,none⟩) hn c2).setCell (p:=⟨rb,3,none⟩) hn c3
theorem LeftAt.put4 {w W:World}{lb rb:Nat}{y:Int}(h:LeftAt w W lb y)(hn:w.heap.size<=rb)(hne:rb≠lb)(c0 c1 c2 c3:Value):LeftAt w (put4 W rb c0 c1 c2 c3) lb y:=
 ⟨⟨h.grown.os,h.grown.tape,h.grown.output,by simp only[World.size_setCell];exact h.grown.size,fun i hi hne'=>(zaQ (by omega) c0 c1 c2 c3).trans (h.grown.block i hi hne')⟩,(zaQ (fun e=>hne e.symm) c0 c1 c2 c3).trans h.box⟩
theorem zeR {d:Dt}{k:Nat}(h:k<d.bufs.length):d.bufs[k]=buf d k:=(zb7 h).symm
theorem zhr {f:Fd}{d:Dt}{n o:Nat}(F:Fit f d n o)(hk:f.k=2\/f.k=14\/(3<=f.k/\f.k<=11)):1<d.bufs.length/\(f.k=14->1<=f.wd/\f.wd<=16):=by
 have hb:=F.nb;unfold zcY at hb;rw[if_neg (by omega),if_neg (by omega),if_neg (by omega)] at hb;refine⟨by omega,fun h14=>?_⟩;have h:=(zaE F.may).1;unfold zaU at h;simp only[Bool.and_eq_true,decide_eq_true_eq] at h;have hw:zbV f.k f.wd=true:=by
  revert h
  intro h
  first|exact h.1|exact h.2.1|exact h.2.2.1|exact h.2.2.2.1|exact h.2.2.2.2.1
 unfold zbV at hw;rw[if_pos h14] at hw;simp only[Bool.and_eq_true,decide_eq_true_eq] at hw;exact hw
theorem zmk {w0 w:World}{ab lb:Nat}{f:Fd}{d:Dt}{fr n:Int}{r:Nat}{x:Int}(h:RdIn w0 w ab lb f d fr n r x)(hk:f.k=2\/f.k=14\/(3<=f.k/\f.k<=11)) :
  Calls Tryz.prog 232 #[.agg #[],.pointer (some ⟨ab,0,none⟩),.int .i64 r,.pointer (some ⟨lb,0,none⟩)] w (zcb w lb (flatV f d r x)):=by
 have W0:=WellD.of h.well;obtain⟨n',o',F⟩:=Fit.of W0.sizes;obtain⟨hb1,hwd⟩:=zhr F hk;have hrb:r<=4096:=by have h1:=h.row.2;have h2:=F.few;have h3:=F.off;have h4:=F.len;omega
 have H:=zh h;obtain⟨fp,fc,bp,bc,kp,kc,dp,dc,hbx,hf,hd⟩:=h.arr.at';unfold zdt at hbx;have p2:=hbx.row 2 _ rfl;have p3:=hbx.row 3 _ rfl;have p4:=hbx.row 4 _ rfl;have p5:=hbx.row 5 _ rfl;have p6:=hbx.row 6 _ rfl;have hlt:=hbx.lt;have hx0:=h.x;have hlbw:=h.box.lt;obtain⟨W1,hW,a0,a1,a2,hBW⟩:=zbG w 167 [] 39 [.bool false,.int .i64 0,.string ⟨#[]⟩,.slice none 0 0] 24 [.int .i64 f.k,.int .i64 f.wd,.int .i64 f.id,.int .i64 f.ix,.slice fp f.kids.length fc];have HW:=zh hW;have A1:=zh a1;have A2:=zh a2;have HBW:=zh hBW;have HBY:=zh (zcg (h.b0.trans (hBW.mono h.b0.size)) (h.arr.below hBW) 1 hb1);have HWD:=zh hwd;have HKK:=zh hk;clear h hbx hf hd hW a0 a1 a2 hBW W0 F hwd hk;obtain⟨s,hs⟩:=nm (buf d 1);have hs2:d.bufs[1]=s:=by rw[hs];exact zeR hb1
 rw[hs2] at HBY;have HSS:=zh hs2;have HFV:=zh (show flatV f d r x=if x-16<0 then none
 else if f.k=2 then some (.mk false (wrap64 (bits BinOp.and IntKind.u8 (zaq s (r / 8) / 2 ^ (r % 8)) 1)) ⟨#[]⟩ [],x-16)
 else if f.k=14 then(if x-16-f.wd<0 then none else some (.mk false 0 (zbB s (r*f.wd.toNat) f.wd.toNat) [],x-16-f.wd))
 else some (.mk false (zcv f.k s r) ⟨#[]⟩ [],x-16) by rw[hs];rfl)
 obtain⟨res,hres⟩:∃res,flatV f d r x=res:=⟨_,rfl⟩;rw[hres] at HFV ⊢;clear hs hs2 hres
 go_in
 go_wp2_with fail;rw[<-HW.o];clear HW p2 p3 p4 p5 p6 hlt;refine HBY.o.mono ?_;rintro e W2 ⟨qq,cc,rfl,hat,hb2⟩;have HAT:=zh hat;have HB2:=zh (HBW.o.trans (hb2.mono HBW.o.size));have A1':=zh (A1.o.below hb2 A1.o.lt);have A2':=zh (A2.o.below hb2 A2.o.lt);have hsz2:=HB2.o.size;clear hat hb2;obtain⟨V,hV,a3,hBV⟩:=zao W2 202 [.slice qq s.size s.size,.int .i64 0,.pointer none];have HV:=zh hV;have A3:=zh a3;have B1:=zh (A1'.o.below hBV A1'.o.lt);have B2:=zh (A2'.o.below hBV A2'.o.lt);have HBV:=zh (HB2.o.trans (hBV.mono HB2.o.size));have L1:=zh ((LeftAt.refl H.o.box).below HBV.o);clear hV a3 hBV;unfold zcj;go_wp2_with fail;rw[<-HV.o];clear HV;refine(zc1 L1.o.box hx0 16 (by omega)).mono ?_;rintro e W3 ⟨hl,⟨hneg,rfl⟩|⟨hpos,rfl⟩⟩
 ·have HL:=zh (L1.o.trans hl);have HN:=zh (show res=none by rw[HFV.o,if_pos hneg]);clear hl hneg;go_wp2_with fail;exact zaT HN.o HL.o
 have HL:=zh (L1.o.trans hl);have hlb1:=B1.o.lt;have hne1:w.heap.size+1≠lb:=by omega
 have hne2:w.heap.size+1+1≠lb:=by omega
 have hne3:W2.heap.size≠lb:=by omega
 have c1:=B1.o.kept hl.grown (by intro e;cases e;omega);have c2:=B2.o.kept hl.grown (by intro e;cases e;omega);have c3:=A3.o.kept hl.grown (by intro e;cases e;omega);have HFV2:=zh (show res=if f.k=2 then some (.mk false (wrap64 (bits BinOp.and IntKind.u8 (zaq s (r / 8) / 2 ^ (r % 8)) 1)) ⟨#[]⟩ [],x-16)
 else if f.k=14 then(if x-16-f.wd<0 then none else some (.mk false 0 (zbB s (r*f.wd.toNat) f.wd.toNat) [],x-16-f.wd))
 else some (.mk false (zcv f.k s r) ⟨#[]⟩ [],x-16) by rw[HFV.o,if_neg (by omega)])
 have k0:=c2.row 0 _ rfl;have C1:=zh c1;have C2:=zh c2;have C3:=zh c3;obtain⟨v0,v1,v2⟩:=rr3 c3.row;have hl3:=c3.lt;have HBz:=zh (HL.o.base H.o.b0 H.o.far.1);have hpos':=hpos;clear hl c1 c2 c3 HFV;by_cases h2:f.k=2
 ·have q2:(f.k == 2)=true:=by simpa using h2
  have HN:=zh (show res=_ by rw[HFV2.o,if_pos h2]);clear h2;go_wp2_with fail;refine(zgt (HAT.o.below HBz.o) (r / 8) (by omega)).mono ?_;rintro e W4 ⟨rfl,hb4⟩;have hbb:=za1 s (r / 8);generalize zaq s (r / 8)=bt at *;have d1:=C1.o.below hb4 C1.o.lt;have HL4:=zh (HL.o.below hb4);have D1:=zh d1;obtain⟨m0,m1,m2,m3⟩:=rr4 d1.row;obtain⟨z0,z1,z2,z3⟩:=ff4 d1;have hl1:=d1.lt;clear hb4 d1 v0 v1 v2 k0;go_wp2_with fail;exact zbS (i:=8) rfl (zaS rfl D1.o _ _ _ _) HN.o (VAt.flat _ _ _) (LeftAt.put4 HL4.o (by omega) hne1 _ _ _ _) ⟨hpos',by omega⟩ rfl
 have q2:(f.k == 2)=false:=by simpa using h2
 have HFV3:=zh (show res=if f.k=14 then(if x-16-f.wd<0 then none else some (.mk false 0 (zbB s (r*f.wd.toNat) f.wd.toNat) [],x-16-f.wd))
 else some (.mk false (zcv f.k s r) ⟨#[]⟩ [],x-16) by rw[HFV2.o,if_neg h2])
 clear HFV2;by_cases h14:f.k=14
 ·have q14:(f.k == 14)=true:=by simpa using h14
  obtain⟨g1,g2⟩:=HWD.o h14;have HFV4:=zh (show res=if x-16-f.wd<0 then none else some (.mk false 0 (zbB s (r*f.wd.toNat) f.wd.toNat) [],x-16-f.wd) by rw[HFV3.o,if_pos h14]);have k1:=C2.o.row 1 _ rfl;obtain⟨m,hm⟩:=Int.eq_ofNat_of_zero_le (show 0<=f.wd by omega);rw[hm] at k1 HFV4 g1 g2;rw[Int.toNat_natCast] at HFV4;clear h2 h14 HFV3;have HMW:=zh hm;clear hm;go_wp2_with fail;refine(zc1 HL.o.box (by omega) (m:Int) (by omega)).mono ?_;rintro e W4 ⟨hl,⟨hneg,rfl⟩|⟨hpos2,rfl⟩⟩
  ·have HL4:=zh (HL.o.trans hl);have HN:=zh (show res=none by rw[HFV4.o,if_pos hneg]);clear hl hneg;go_wp2_with fail;exact zaT HN.o HL4.o
  have HL4:=zh (HL.o.trans hl);have e1:=C1.o.kept hl.grown (by intro e;cases e;omega);have e2:=C2.o.kept hl.grown (by intro e;cases e;omega);have e3:=C3.o.kept hl.grown (by intro e;cases e;omega);have E1:=zh e1;have k1:=e2.row 1 _ rfl;rw[HMW.o] at k1;obtain⟨v0,v1,v2⟩:=rr3 e3.row;have hl3':=e3.lt;have hl2':=e2.lt;have HBz4:=zh (HL4.o.base H.o.b0 H.o.far.1);obtain⟨a,ha⟩:=nm (r*m);have hm16:m<=16:=by omega
  have hab:a<=65536:=by rw[ha];exact Nat.mul_le_mul hrb hm16
  have m1:(r:Int)*(m:Int)=(a:Int):=by rw[ha];exact(Int.natCast_mul r m).symm
  have MW:Hid (wrap64 ((r:Int)*m)=a):=zh (by rw[m1];unfold wrap64;omega);have M1:=zh m1;have HN:=zh (show res=some (.mk false 0 (zbB s a m) [],x-16-m) by rw[HFV4.o,if_neg (by omega),ha]);clear hl e1 e2 e3 ha m1 HFV4;have mm:=M1.o;go_wp2_with fail;refine(zia (HAT.o.below HBz4.o) a m (by omega) (by omega)).mono ?_;rintro e W5 ⟨rfl,hb4⟩;generalize zbB s a m=tx at *;clear mm k1;have d1:=E1.o.below hb4 E1.o.lt;have HL5:=zh (HL4.o.below hb4);have D1:=zh d1;obtain⟨m0,m1,m2,m3⟩:=rr4 d1.row;obtain⟨z0,z1,z2,z3⟩:=ff4 d1;have hl1:=d1.lt;clear hb4 d1 v0 v1 v2 k0;go_wp2_with fail;exact zbS (i:=8) rfl (zaS rfl D1.o _ _ _ _) HN.o (VAt.flat _ _ _) (LeftAt.put4 HL5.o (by omega) hne1 _ _ _ _) ⟨hpos2,by omega⟩ rfl
 ·have q14:(f.k == 14)=false:=by simpa using h14
  have h3:3<=f.k/\f.k<=11:=by have:=HKK.o;omega
  obtain⟨m,hm,hm1⟩:∃m:Nat,zaK f.k=m/\1<=m:=by
   obtain⟨g1,g2⟩:=h3;have:zaK f.k=1\/zaK f.k=2\/zaK f.k=4\/zaK f.k=8:=by
    unfold zaK;have hh:f.k=3\/f.k=4\/f.k=5\/f.k=6\/f.k=7\/f.k=8\/f.k=9\/f.k=10\/f.k=11:=by omega
    rcases hh with h|h|h|h|h|h|h|h|h <;> rw[h] <;> decide
   rcases this with h|h|h|h
   ·exact⟨1,by rw[h];rfl,by omega⟩
   ·exact⟨2,by rw[h];rfl,by omega⟩
   ·exact⟨4,by rw[h];rfl,by omega⟩
   ·exact⟨8,by rw[h];rfl,by omega⟩
  have HN:=zh (show res=some (.mk false (zcv f.k s r) ⟨#[]⟩ [],x-16) by rw[HFV3.o,if_neg h14]);have HNB:=zh (zgW HBz.o (H.o.arr.kept HL.o.grown (by intro e;cases e;exact H.o.far.2 rfl)) hb1 f.k hm hm1 r (by omega));have hs2:d.bufs[1]=s:=HSS.o;rw[hs2] at HNB;generalize zcv f.k s r=nf at *;clear h2 h14 HFV3 h3 hm hm1 hs2;go_wp2_with fail;refine HNB.o.mono ?_;rintro e W4 ⟨rfl,hb4⟩;have d1:=C1.o.below hb4 C1.o.lt;have HL4:=zh (HL.o.below hb4);have D1:=zh d1;obtain⟨m0,m1,m2,m3⟩:=rr4 d1.row;obtain⟨z0,z1,z2,z3⟩:=ff4 d1;have hl1:=d1.lt;clear hb4 d1 v0 v1 v2 k0;go_wp2_with fail;exact zbS (i:=8) rfl (zaS rfl D1.o _ _ _ _) HN.o (VAt.flat _ _ _) (LeftAt.put4 HL4.o (by omega) hne1 _ _ _ _) ⟨hpos',by omega⟩ rfl
theorem zcI {S:Nat->Prop}{w:World}{l:List Vl}{p:Option Addr}{n cap:Nat}(h:M.At S w (.many 4 (l.map vlR)) (.slice p n cap))(i:Nat)(hi:i<l.length):∃b o q c,p=some ⟨b,o,none⟩/\S b /\
  w.cell? ⟨b,o+i*4,none⟩=some (.bool l[i].nl)/\w.cell? ⟨b,o+i*4+1,none⟩=some (.int .i64 l[i].num)/\w.cell? ⟨b,o+i*4+2,none⟩=some (.string l[i].tx)/\w.cell? ⟨b,o+i*4+3,none⟩=some (.slice q l[i].kids.length c) /\
  VAt S w l[i] [.bool l[i].nl,.int .i64 l[i].num,.string l[i].tx,.slice q l[i].kids.length c]:=by
 obtain⟨b,o,cs,rfl,hS,h2,h3,h4⟩:=M.At.get h i (by simpa using hi);simp only[List.getElem_map] at h4;obtain⟨q,c,rfl,_⟩:=VAt.shape (show VAt S w l[i] cs from h4);exact⟨b,o,q,c,rfl,hS,h3 0 _ rfl,h3 1 _ rfl,h3 2 _ rfl,h3 3 _ rfl,h4⟩
inductive VFew:Vl->Prop
 | mk {v:Vl}:v.kids.length<=4096->(∀u ∈ v.kids,VFew u)->VFew v
def zhW (w:World)(v:Vl)(e:Ending)(w':World):Prop:=∃p cap,e=.returned (.agg #[.bool v.nl,.int .i64 v.num,.string v.tx,.slice p v.kids.length cap])/\VAt (fun b=>w.heap.size<=b) w' v (v4 v p cap)/\Below w.heap.size w w'
theorem zpG {fn:Func}{i:Nat}(hfn:fn.results=#[.cell i 39]){W:World}{tmps:Array Value}{rb:Nat}{c0 c1 c2 c3:Value}(ht:tmps.getD i undef=.pointer (some ⟨rb,0,none⟩))(hw:RowAt W rb [c0,c1,c2,c3]) :
  (results fn tmps).run Tryz.prog W=.ok (.agg #[c0,c1,c2,c3]) W:=by
 have h0:=hw 0 _ rfl;have h1:=hw 1 _ rfl;have h2:=hw 2 _ rfl;have h3:=hw 3 _ rfl;rw[Array.getD_eq_getD_getElem?] at ht;simp[results,hfn,go_sem,ht,h0,h1,h2,h3]
theorem zov {fn:Func}{i:Nat}(hfn:fn.results=#[.cell i 39]){w W:World}{rb:Nat}{v:Vl}{p:Option Addr}{cap:Nat}(hbx:BoxN W rb 39 (v4 v p cap))(hv:VAt (fun b=>w.heap.size<=b) W v (v4 v p cap))(hB:Below w.heap.size w W)
  {tmps:Array Value} (ht:tmps.getD i undef=.pointer (some ⟨rb,0,none⟩)):bodyPost Tryz.prog fn (zhW w v) Exit.ret { tmps:=tmps,defers:=[] } W:=
 bodyPost_ret (zpG hfn ht hbx.row) rfl ⟨p,cap,rfl,hv,hB⟩
theorem zq5:Tryz.prog.underlying 37=some (.slice 39):=by kernel_rfl
theorem zqG:(Tryz.prog.info? 39).map (fun i=>(i.zero.map (fun z=>z.cells.size),i.size,i.bytes))=some (some 4,4,56):=by kernel_rfl
theorem zkv:∃i z,Tryz.prog.info? 39=some i/\i.zero=some z/\z.cells.size=4/\i.size=4/\i.bytes=56:=by
 obtain⟨i,hi,hzz⟩:=Option.map_eq_some_iff.1 zqG;simp only[Prod.mk.injEq] at hzz;obtain⟨h1,h2,h3⟩:=hzz;obtain⟨z,hz,hs⟩:=Option.map_eq_some_iff.1 h1;exact⟨i,z,hi,hz,hs,h2,h3⟩
theorem znn {w:World}{v:Vl}{p:Option Addr}{cap:Nat}(hv:VAt (fun _=>True) w v (v4 v p cap))(hsm:v.kids.length<=4096)
  (ih:∀u ∈ v.kids,∀(w:World) (p:Option Addr) (cap:Nat),VAt (fun _=>True) w u (v4 u p cap)->Calls Tryz.prog 183 #[.agg #[.bool u.nl,.int .i64 u.num,.string u.tx,.slice p u.kids.length cap]] w (zhW w u)) :
  Calls Tryz.prog 183 #[.agg #[.bool v.nl,.int .i64 v.num,.string v.tx,.slice p v.kids.length cap]] w (zhW w v):=by
 obtain⟨i1,z1,hi1,hz1,hzc1,hsz1,hby1⟩:=zkv;obtain⟨p',cap',hcs,hk⟩:=hv.shape;cases hcs;obtain⟨-,hl1,hl2⟩:=zam hk;simp only[List.length_map] at hl1;unfold maxLen at hl2;have HK:=zh hk;have HI:=zh ih;clear hv ih hk;obtain⟨W,hW,a1,a2,hBW⟩:=zbt w 39 (v4 v p cap) 39 [.bool false,.int .i64 0,.string ⟨#[]⟩,.slice none 0 0];have hWs:W.heap.size=w.heap.size+2:=by rw[hW];simp
 have A1:=zh a1;have A2:=zh a2;have HBW:=zh hBW;have HWS:=zh hWs;have HW:=zh hW;clear a1 a2 hBW hWs hW
 go_in
 go_wp2_with fail;rw[<-HW.o];clear HW
 go_loopw [3,9] (fun l i wr=>∃(k:Nat) (q:Option Addr) (c:Nat) (css:List (List Value)),k<=v.kids.length/\l=.slice q k c/\i=.int .i64 k/\Hid (GrowS (fun b=>W.heap.size<=b) 39 4 wr W.heap.size (.slice q k c) ((v.kids.take k).map vlR) css)/\Hid (Below W.heap.size W wr)) (fun _ i _=>v.kids.length-(intOf i).toNat)
 case atStart=>exact⟨0,none,0,[],by omega,rfl,rfl,zh (GrowS.nil _ _ _ _ _),zh (Below.refl _ _)⟩
 case round=>
  obtain⟨k,q,c,css,hk,rfl,rfl,HR,HB⟩:=hrel;have hbw:Below w.heap.size w wr:=HBW.o.trans (HB.o.mono HBW.o.size);have HBR:=zh hbw;have B1:=zh (A1.o.below HB.o A1.o.lt);have B2:=zh (A2.o.below HB.o A2.o.lt);have hsz:=HB.o.size;have hlt2:=B2.o.lt;by_cases hlt:k<v.kids.length
  ·obtain⟨b',o',fq,cap',rfl,-,c0,c1,c2,c3,e3⟩:=zcI HK.o k hlt;have E3:=zh e3;replace c0:=zaa hbw c0;replace c1:=zaa hbw c1;replace c2:=zaa hbw c2;replace c3:=zaa hbw c3;have HIG:=zh (HI.o v.kids[k] (List.getElem_mem hlt));have HTK:=zh (List.take_succ_eq_append_getElem hlt);clear e3 hbw;generalize hg:v.kids[k]=g at *;have HG:=zh hg;clear hg;go_wp2_with fail;obtain⟨A,hA⟩:=nm (wr.alloc (.cells #[.bool g.nl,.int .i64 g.num,.string g.tx,.slice fq g.kids.length cap'] 39));have BA:Below wr.heap.size wr A:=by rw[hA];exact(Below.refl _ wr).alloc (Nat.le_refl _) _
   rw[<-hA];clear hA;have BAw:=HBR.o.trans (BA.mono HBR.o.size);refine(HIG.o A fq cap' (E3.o.below BAw)).mono ?_;rintro e W1 ⟨p1,cap1,rfl,hfd,hb1⟩;have hb2:Below wr.heap.size wr W1:=BA.trans (hb1.mono BA.size);have hR1:=HR.o.below hb2;have htk:((v.kids.take k).map vlR).length=k:=by rw[List.length_map,List.length_take];omega
   have hown1:W1.ownsRow W.heap.size 39 4 (.slice q k c) k (css.flatMap id):=by have:=hR1.g.own;rwa [htk] at this
   have hasz:wr.heap.size<=A.heap.size:=BA.size;have hoff:∀j,(Value.slice q k c).ownBlock=some j->j<wr.heap.size:=fun j e=>(HR.o.g.own.lt j e).2;have hfd1:M.AtL (fun b=>W.heap.size<=b/\(Value.slice q k c).ownBlock≠some b) W1 (vlR g) _:=hfd.mono (fun b hb=>⟨by omega,fun e=>by have:=hoff b e;omega⟩);have hs1:=hb2.size;have HR1:=zh hR1;have HO1:=zh hown1;have HF1:=zh hfd1;have HB2:=zh (HB.o.trans (hb2.mono hsz));have HTL:=zh htk;have hZ:=BoxN.new W1 39 (v4 g p1 cap1);have HZ:=zh hZ;clear hfd hb1 hb2 hR1 hown1 hfd1 hoff hZ BA BAw htk c0 c1 c2 c3;go_wp2_with (at_builtin;refine wpList_append_lies _ rfl _ _ 37 rfl W.heap.size 39 i1 z1 4 56 zq5 hi1 hz1 hsz1 hby1 hzc1 (by decide) (.slice q k c) k (css.flatMap id) rfl (HO1.o.alloc _) ⟨W1.heap.size,0,none⟩ 1 1 (v4 g p1 cap1) rfl rfl (World.news_of_block HZ.o) (by simp[Value.oneCell']) (by decide) (by unfold maxLen;omega) (by omega) (by simp;omega) (W1.heap.size+1) (by simp) ?_;intro gg cc w2 hown2 hgrow2 hat2 hlt2);refine⟨⟨k+1,some ⟨gg,0,none⟩,cc,css ++ [(v4 g p1 cap1)],by omega,rfl,by go_num,zh ?_,zh ((HB2.o.alloc HB2.o.size _).grown hgrow2 (by have:=HB2.o.size;simp;omega) (fun j e=>(HO1.o.lt j e).1))⟩,by simp[intOf];omega⟩;rw[HTK.o,List.map_append];exact(HR1.o.below ((Below.refl _ W1).alloc (Nat.le_refl _) _)).push (M.AtL.below ((Below.refl _ W1).alloc (Nat.le_refl _) _) HF1.o) rfl HTL.o hown2 hgrow2 (by rw[World.size_alloc];exact hat2)
  ·have hkl:k=v.kids.length:=by omega
   have HKL:=zh hkl;obtain⟨r0,r1,r2,r3⟩:=rr4 B1.o.row;have x3:=B1.o.frozen 3;obtain⟨q0,q1,q2,q3⟩:=rr4 B2.o.row;obtain⟨y0,y1,y2,y3⟩:=ff4 B2.o;clear hkl hbw;go_wp2_with fail;have hR:=HR.o;rw[HKL.o,List.take_length] at hR;have hlist:=hR.list (by decide) (fun b hb=>hb);rw[HKL.o];have hws:=HWS.o;have hV:VAt (fun b=>W.heap.size<=b) wr v (v4 v q c):=by
    cases v with
    | mk nl num tx kids=>exact VAt.make nl num tx kids hlist
   have hbx:=zaS (t:=39) rfl ((B2.o).other (a:=⟨w.heap.size,3,none⟩) (by simp) (.slice q v.kids.length c)) (.bool v.nl) (.int .i64 v.num) (.string v.tx) (.slice q v.kids.length c);refine zov (fn:=Tryz.f183) rfl hbx ?_ ?_ rfl
   ·refine hV.keep (fun b hs hlt=>⟨?_,by omega⟩);rw[zaQ (by omega)];exact Below.heap_setCell _ _ _ b (by show b≠w.heap.size;omega)
   ·exact zbP (HBR.o.setCell (p:=⟨w.heap.size,3,none⟩) (Nat.le_refl _) _) (by omega) _ _ _ _
theorem ze5 {v:Vl}(hf:VFew v):∀ {w:World} {p:Option Addr} {cap:Nat},VAt (fun _=>True) w v (v4 v p cap)->Calls Tryz.prog 183 #[.agg #[.bool v.nl,.int .i64 v.num,.string v.tx,.slice p v.kids.length cap]] w (zhW w v):=by
 induction hf with
 | mk h1 h2 ih=>
  intro w p cap hv;exact znn hv h1 (fun u hu w p cap h=>ih u hu h)
end Go.Fld
