import Derived.Test.YthocbeghnkacnaaGreatDoorT22
import Derived.Test.YthocbeghnkacnaaGreatDoorT23
set_option linter.unusedVariables false
set_option linter.unusedSimpArgs false
set_option linter.unnecessarySimpa false
set_option maxRecDepth 100000
set_option maxHeartbeats 16000000
namespace Go.Fld
open Go Go.RowKit Go.Proofs Go.ChangeShapes Go.WideShapes Go.ChangeAt Go.Shelf Go.Fld.Late
theorem zgY (s:ByteArray)(w:World)(hs:s.size<=9223372036854775807)(hT:Lib.Utf8Tabs 1 2 w):Calls Tryz.prog 197 #[.string s] w (zaM w (.bool (Lib.validD s.data.toList))):=
 (Any.utf8_ValidString Tryz.laysValid s w hs hT).mono fun _ _ h=>h
theorem zj5 {s:ByteArray}{r:Nat}{most p q:Int}(h:zd3 s r most=some (p,q)):0<=p/\p<=q/\q<=most:=by
 unfold zd3 at h;split at h
 ·cases h
 ·cases h
  rename_i hn
  refine⟨?_,?_,?_⟩
  ·exact Int.not_lt.1 fun g=>hn (.inl g)
  ·exact Int.not_lt.1 fun g=>hn (.inr (.inl g))
  ·exact Int.not_lt.1 fun g=>hn (.inr (.inr g))
theorem zml {w0 w:World}{ab lb:Nat}{f:Fd}{d:Dt}{fr n:Int}{r:Nat}{x:Int}(h:RdIn w0 w ab lb f d fr n r x)(hk:f.k=12\/f.k=13) :
  Calls Tryz.prog 216 #[.agg #[],.pointer (some ⟨ab,0,none⟩),.int .i64 r,.pointer (some ⟨lb,0,none⟩)] w (zcb w lb (zgA f d r x)):=by
 have W0:=WellD.of h.well;obtain⟨n',o',F⟩:=Fit.of W0.sizes;obtain⟨hb3,-⟩:=F.text hk;have hb1:1<d.bufs.length:=by omega
 have hb2:2<d.bufs.length:=by omega
 have hbig:=F.big 2 hb2;have hrb:r<=4096:=by have h1:=h.row.2;have h2:=F.few;have h3:=F.off;have h4:=F.len;omega
 have H:=zh h;obtain⟨fp,fc,bp,bc,kp,kc,dp,dc,hbx,hf,hd⟩:=h.arr.at';have hbu:=DAt.bufsAt hd;unfold zdt at hbx;obtain⟨-,hl1,hl2⟩:=zam hbu;simp only[List.length_map] at hl1;unfold maxLen at hl2;obtain⟨bb,bo,q2,c2,rfl,-,x2,hby2⟩:=zbI hbu 2 hb2;obtain⟨W1,hW,a0,a1,hBW⟩:=zbt w 161 [] 39 [.bool false,.int .i64 0,.string ⟨#[]⟩,.slice none 0 0];have xx2:=zaa h.b0 x2;have hbl:=World.block_lt_of_cell? w _ xx2;simp only at hbl;have p10:=hbx.row 10 _ rfl;have hlt:=hbx.lt;have hx0:=h.x;have hlbw:=h.box.lt;have HW:=zh hW;have A1:=zh a1;have HBW:=zh hBW;have HARR:=zh (h.arr.below hBW);have HBz1:=zh (h.b0.trans (hBW.mono h.b0.size));have HBT:=zh (zgX HBz1.o HARR.o hb1 r (by omega) (d.bufs[2].size:Int));have L1:=zh ((LeftAt.refl h.box).below hBW);have HT:=zh h.tabs;have HKK:=zh hk;have hlen:(2:Int)<(d.bufs.length:Int):=by omega
 clear h hbx hf hd hW a0 a1 hBW W0 F hk hbu hby2 x2;have hs1:=zeR hb1;have hs2:=zeR hb2;have HSS:=zh hs2;rw[hs1] at HBT;rw[hs2] at HBT xx2 hbig;have HFV:=zh (show zgA f d r x=match zd3 (buf d 1) r (buf d 2).size with
 | none=>none
 | some (p,q)=>if x-(16+q-p)<0 then none
  else if f.k=12/\Lib.validD (zbB (buf d 2) p.toNat (q-p).toNat).data.toList=false then none
  else some (.mk false 0 (zbB (buf d 2) p.toNat (q-p).toNat) [],x-(16+q-p)) from rfl)
 obtain⟨res,hres⟩:∃res,zgA f d r x=res:=⟨_,rfl⟩;rw[hres] at HFV ⊢;clear hres hs1 hs2;generalize buf d 1=s1 at *;generalize buf d 2=s at *;obtain⟨o,ho⟩:∃o,zd3 s1 r s.size=o:=⟨_,rfl⟩;rw[ho] at HFV HBT;have HO:=zh ho;clear ho
 go_in
 go_wp2_with fail;rw[<-HW.o];clear HW;refine HBT.o.mono ?_;rintro e W2 ⟨hb2',⟨hn,rfl⟩|⟨p,q,ho,rfl⟩⟩
 ·have HL:=zh (L1.o.below hb2');have HN:=zh (show res=none by rw[HFV.o,hn]);clear hb2' hn;go_wp2_with fail;exact zaT HN.o HL.o
 subst ho;obtain⟨g0,g1,g2⟩:=zj5 HO.o;obtain⟨a,rfl⟩:=Int.eq_ofNat_of_zero_le g0;obtain⟨z,rfl⟩:=Int.eq_ofNat_of_zero_le (Int.le_trans g0 g1);have g1':a<=z:=by omega
 have g2':z<=65536:=by omega
 have HFV2:=zh (show res=if x-(16+(z:Int)-a)<0 then none
  else if f.k=12/\Lib.validD (zbB s a (z-a)).data.toList=false then none
  else some (.mk false 0 (zbB s a (z-a)) [],x-(16+(z:Int)-a)) by
   rw[HFV.o];simp only[Int.toNat_natCast];rw[show((z:Int)-(a:Int)).toNat=z-a by omega])
 have HL2:=zh (L1.o.below hb2');have B1:=zh (A1.o.below hb2' A1.o.lt);have HBz2:=zh (HBz1.o.trans (hb2'.mono HBz1.o.size));have hsz2:=HL2.o.grown.size;clear hb2' HFV HBT HO p10 xx2 g0 g1 g2;go_wp2_with fail;refine(zc1 HL2.o.box hx0 (16+(z:Int)-a) (by omega)).mono ?_;rintro e W3 ⟨hl,⟨hneg,rfl⟩|⟨hpos,rfl⟩⟩
 ·have HL:=zh (HL2.o.trans hl);have HN:=zh (show res=none by rw[HFV2.o,if_pos hneg]);clear hl hneg;go_wp2_with fail;exact zaT HN.o HL.o
 have HL3:=zh (HL2.o.trans hl);have HBz3:=zh (HL3.o.base H.o.b0 H.o.far.1);have hne1:w.heap.size+1≠lb:=by omega
 have C1:=zh (B1.o.kept hl.grown (by intro e;cases e;omega));have HA3:=zh (H.o.arr.kept HL3.o.grown (by intro e;cases e;exact H.o.far.2 rfl));have HBY:=zh (zcg HBz3.o HA3.o 2 hb2);have hs2:=HSS.o;rw[hs2] at HBY;have HFV3:=zh (show res=if f.k=12/\Lib.validD (zbB s a (z-a)).data.toList=false then none
  else some (.mk false 0 (zbB s a (z-a)) [],x-(16+(z:Int)-a)) by rw[HFV2.o,if_neg (by omega)])
 clear hl HFV2 hs2;go_wp2_with fail;refine HBY.o.mono ?_;rintro e W4 ⟨qq,cc,rfl,hat,hb4⟩;have HAT:=zh (M.At.below (HBz3.o.trans (hb4.mono HBz3.o.size)) hat);have HL4:=zh (HL3.o.below hb4);have D1:=zh (C1.o.below hb4 C1.o.lt);clear hat hb4;go_wp2_with fail;have htx:=zia HAT.o a (z-a) (by omega) (by omega);rw[show((z-a:Nat):Int)=(z:Int)-a by omega] at htx;refine htx.mono ?_;clear htx;rintro e W5 ⟨rfl,hb5⟩;have HL5:=zh (HL4.o.below hb5);have E1:=zh (D1.o.below hb5 D1.o.lt);have hts:(zbB s a (z-a)).size<=65536:=by
  unfold zbB;split
  ·show(List.toArray _).size<=_;simp;omega
  ·decide
 generalize zbB s a (z-a)=tx at *;have HA5:=zh (H.o.arr.kept HL5.o.grown (by intro e;cases e;exact H.o.far.2 rfl));obtain⟨_,_,_,_,_,_,_,_,hbx5,-,-⟩:=HA5.o.at';unfold zdt at hbx5;have p2:=hbx5.row 2 _ rfl;have hlt5:=hbx5.lt;clear hb5 hbx5;by_cases h12:f.k=12
 ·have q12:(f.k == 12)=true:=by simpa using h12
  have HVS:=zh (zgY tx W5 (by omega) (Utf8Tabs_below HT.o (HL5.o.base H.o.b0 H.o.far.1)));have HFV4:=zh (show res=if Lib.validD tx.data.toList=false then none else some (.mk false 0 tx [],x-(16+(z:Int)-a)) by
   rw[HFV3.o];by_cases hv:Lib.validD tx.data.toList=false
   ·rw[if_pos ⟨h12,hv⟩,if_pos hv]
   ·rw[if_neg (fun g=>hv g.2),if_neg hv])
  clear h12 HFV3;generalize Lib.validD tx.data.toList=vb at *;go_wp2_with fail;refine HVS.o.mono ?_;rintro e W6 ⟨rfl,hb6⟩;have HL6:=zh (HL5.o.below hb6);have f1:=E1.o.below hb6 E1.o.lt;have F1:=zh f1;clear hb6;cases vb with
  | false=>
   have HN:=zh (show res=none by rw[HFV4.o,if_pos rfl]);clear f1;go_wp2_with fail;exact zaT HN.o HL6.o
  | true=>
   have HN:=zh (show res=_ by rw[HFV4.o,if_neg (by decide)]);obtain⟨m0,m1,m2,m3⟩:=rr4 f1.row;obtain⟨z0,z1,z2,z3⟩:=ff4 f1;have hl1:=f1.lt;clear f1;go_wp2_with fail;exact zbS (i:=8) rfl (zaS rfl F1.o _ _ _ _) HN.o (VAt.flat _ _ _) (LeftAt.put4 HL6.o (by omega) hne1 _ _ _ _) ⟨hpos,by omega⟩ rfl
 ·have q12:(f.k == 12)=false:=by simpa using h12
  have HN:=zh (show res=_ by rw[HFV3.o,if_neg (fun g=>h12 g.1)]);have f1:=E1.o;obtain⟨m0,m1,m2,m3⟩:=rr4 f1.row;obtain⟨z0,z1,z2,z3⟩:=ff4 f1;have hl1:=f1.lt;clear f1 HFV3 h12;go_wp2_with fail;exact zbS (i:=8) rfl (zaS rfl E1.o _ _ _ _) HN.o (VAt.flat _ _ _) (LeftAt.put4 HL5.o (by omega) hne1 _ _ _ _) ⟨hpos,by omega⟩ rfl
def zgC (n:Nat):Prop:=∀(w0 w:World) (b lb:Nat) (g:Fd) (e:Dt) (i:Nat) (x:Int),RdIn w0 w b lb g e e.off e.len (e.off.toNat+i) x->zaN e<=n ->
 Calls Tryz.prog 59 #[.pointer (some ⟨b,0,none⟩),.int .i64 i,.pointer (some ⟨lb,0,none⟩)] w (zcb w lb (zay n g e (e.off.toNat+i) x))
theorem RdIn.child {w0 w W:World}{ab lb b k i:Nat}{f:Fd}{d:Dt}{fr n x y:Int}{r:Nat}(H:RdIn w0 w ab lb f d fr n r x)(hl:LeftAt w W lb y)(hy:0<=y/\y<=4194304)(hk:k<(zac d).length)(hA:ArrAt w0 W b (zat f k) (zac d)[k] (zac d)[k].off (zac d)[k].len)
  (hb:w.heap.size<=b) (hi:(i:Int)<(zac d)[k].len):RdIn w0 W b lb (zat f k) (zac d)[k] (zac d)[k].off (zac d)[k].len ((zac d)[k].off.toNat+i) y:=by
 have hw:=(WellD.of H.well).parts k hk;obtain⟨n',o',F⟩:=Fit.of (WellD.of hw).sizes;have hlb:=H.box.lt;refine⟨hl.base H.b0 H.far.1,hA,hl.box,⟨H.far.1,by omega⟩,hy,hw,⟨Nat.le_add_right _ _,?_⟩,H.tabs⟩;rw[F.off,Int.toNat_natCast];omega
theorem zge {f:Fd}{d:Dt}{n k i:Nat}{x:Int}(hk:k<(zac d).length):zdE (zay n) f d k i x=zay n (zat f k) (zac d)[k] ((zac d)[k].off.toNat+i) x:=by
 unfold zdE;rw[List.getElem?_eq_getElem hk]
theorem zmN {d:Dt}(h:0<d.kids.length):zbM d=d.kids[0]:=by unfold zbM;rw[List.getElem?_eq_getElem h];rfl
theorem zow {f:Fd}{d:Dt}(h:(zap f d).1=0)(h20:f.k=20):zac d=d.kids/\d.kids.length=2/\∃(h0:0<d.kids.length) (h1:1<d.kids.length) (m o:Nat),d.kids[0].len=m/\d.kids[0].off=o/\(m<=4096/\o<=4096)/\1<d.kids[0].bufs.length/\d.kids[1].len=m:=by
 have W0:=WellD.of h;obtain⟨n',o',F⟩:=Fit.of W0.sizes;obtain⟨hk,m,o,G,hb,-,he⟩:=zi0 F h20 W0.parts;have h2:=W0.ends h20;rw[he] at h2;have hkl:d.kids.length=2:=by
  rw[F.nk];unfold zbY;rw[if_neg (by rw[F.may];simp[h20]),if_pos h20,zaW (zaE F.may).1 (.inr (.inr (.inr h20)))]
 refine⟨F.parts (by omega),hkl,by omega,hk,m,o,G.len,G.off,⟨by have:=G.few;omega,by have:=G.few;omega⟩,hb,?_⟩;unfold zbO at h2;by_cases hab:d.kids[0].len≠d.kids[1].len
 ·rw[if_pos hab] at h2;cases h2
 ·rw[<-G.len];simpa using Eq.symm (by simpa using hab)
theorem zno {nn:Nat}(IH:zgC nn){w0 w:World}{ab lb:Nat}{f:Fd}{d:Dt}{fr n:Int}{r:Nat}{x:Int}(h:RdIn w0 w ab lb f d fr n r x)(hk:f.k=20)(hdp:zaN d<=nn+1) :
  Calls Tryz.prog 230 #[.agg #[],.pointer (some ⟨ab,0,none⟩),.int .i64 r,.pointer (some ⟨lb,0,none⟩)] w (zcb w lb (zfO (zay nn) f d r x)):=by
 have W0:=WellD.of h.well;obtain⟨n',o',F⟩:=Fit.of W0.sizes;have hrb:r<=4096:=by have h1:=h.row.2;have h2:=F.few;have h3:=F.off;have h4:=F.len;omega
 obtain⟨hpd,hkl,h0,h1,m,o,hm,ho,hmo,hb1,hm1⟩:=zow h.well hk;have hp0:0<(zac d).length:=by rw[hpd];exact h0
 have hp1:1<(zac d).length:=by rw[hpd];exact h1
 have hpe0:(zac d)[0]=d.kids[0]:=by simp only[hpd]
 have hpe1:(zac d)[1]=d.kids[1]:=by simp only[hpd]
 have hb1':1<(zac d)[0].bufs.length:=by rw[hpe0];exact hb1
 have hmm:(zac d)[0].len=m/\(zac d)[0].off=o:=by rw[hpe0];exact⟨hm,ho⟩
 have H:=zh h;have hx0:=h.x;have hlbw:=h.box.lt;obtain⟨W1,hW,a0,a1,hBW⟩:=zbt w 166 [] 39 [.bool false,.int .i64 0,.string ⟨#[]⟩,.slice none 0 0];have HW:=zh hW;have A1:=zh a1;have HBW:=zh hBW;have HARR:=zh (h.arr.below hBW);have HBz1:=zh (h.b0.trans (hBW.mono h.b0.size));have HPC:=zh (zdT HBz1.o HARR.o 1 (zeN F hp1) hp1);have L1:=zh ((LeftAt.refl h.box).below hBW);have HSZ:=zh hBW.size;have HFV:=zh (show zfO (zay nn) f d r x=match zdD (zac d)[0].bufs[1] o r m 0 with|none=>none|some i=>zay nn (zat f 1) (zac d)[1] ((zac d)[1].off.toNat+i) x by
  unfold zfO;rw[zmN h0,ho,hm,Int.toNat_natCast,Int.toNat_natCast,zb7 hb1];simp only[hpe0]
  congr 1
  funext i
  exact zge hp1)
 have HRC:=zh (fun(W:World) (hb:Below w0.heap.size w0 W) (hA:ArrAt w0 W ab f d fr n)=>zou hb hA hk hp0 hb1' hmm.1 hmm.2 hmo r (by omega));have HM1:=zh (show(zac d)[1].len=m by rw[hpe1];exact hm1);have HDP:=zh (show zaN (zac d)[1]<=nn by have:=zcf (List.getElem_mem hp1);omega);have HIH:=zh IH;clear h hW a0 a1 hBW W0 F IH hm ho hmo hm1 hpe0 hpe1 hkl hdp hmm;obtain⟨res,hres⟩:∃res,zfO (zay nn) f d r x=res:=⟨_,rfl⟩;rw[hres] at HFV ⊢;clear hres;obtain⟨u,hu⟩:∃u,zdD (zac d)[0].bufs[1] o r m 0=u:=⟨_,rfl⟩;rw[hu] at HFV HRC;have HU:=zh hu;clear hu
 go_in
 go_wp2_with fail;rw[<-HW.o];clear HW;refine HPC.o.mono ?_;rintro e W2 ⟨b2,rfl,hn2,hA2,hb2⟩;have HL2:=zh (L1.o.below hb2);have B1:=zh (A1.o.below hb2 A1.o.lt);have HBz2:=zh (HBz1.o.trans (hb2.mono HBz1.o.size));have HA2:=zh hA2;have HAR2:=zh (HARR.o.below hb2);have HN2:=zh (Nat.le_trans HSZ.o hn2);clear hn2 hA2 hb2;go_wp2_with fail;refine(HRC.o W2 HBz2.o HAR2.o).mono ?_;rintro e W3 ⟨hb3,⟨hn,rfl⟩|⟨i,hi,rfl⟩⟩
 ·have HL:=zh (HL2.o.below hb3);have HN:=zh (show res=none by rw[HFV.o,hn]);clear hb3 hn;go_wp2_with fail;exact zaT HN.o HL.o
 ·have HL3:=zh (HL2.o.below hb3);have HA3:=zh (HA2.o.below hb3);have C1:=zh (B1.o.below hb3 B1.o.lt);have hil:i<m:=by have:=zmM (HU.o.trans hi);omega
  have HRD:=zh (H.o.child HL3.o hx0 hp1 HA3.o HN2.o (i:=i) (by rw[HM1.o];omega));have HFV2:=zh (show res=zay nn (zat f 1) (zac d)[1] ((zac d)[1].off.toNat+i) x by rw[HFV.o,hi]);clear hb3 hi HFV;go_wp2_with fail;refine(HIH.o w0 W3 b2 lb _ _ i x HRD.o HDP.o).mono ?_;rw[<-HFV2.o];rintro e W4 (⟨hn,rfl,z,hz⟩|⟨v,z,vs,hv,rfl,hvat,hz,hzb⟩)
  ·have HL4:=zh (HL3.o.trans hz);have HN:=zh hn;clear hn hz;go_wp2_with fail;exact zaT HN.o HL4.o
  have HL4:=zh (HL3.o.trans hz);have HN:=zh hv;have hlt3:=C1.o.lt;have hne1:w.heap.size+1≠lb:=by omega
  have f1:=C1.o.kept hz.grown (by intro e;cases e;omega);have HSZ3:=zh HL3.o.grown.size;have HV:=zh hvat;obtain⟨pp,pc,rfl,-⟩:=hvat.shape;have F1:=zh f1;obtain⟨m0,m1,m2,m3⟩:=rr4 f1.row;obtain⟨z0,z1,z2,z3⟩:=ff4 f1;have hl1:=f1.lt;clear hz hv f1 hvat;go_wp2_with fail;exact zbS (i:=8) rfl (zaS rfl F1.o _ _ _ _) HN.o (HV.o.keep fun b hb hlt=>⟨zaQ (by have hb':W3.heap.size<=b:=hb;omega) _ _ _ _,(by have hb':W3.heap.size<=b:=hb;have:=HSZ3.o;omega)⟩) (LeftAt.put4 HL4.o (by omega) hne1 _ _ _ _) hzb rfl
theorem zmm {nn:Nat}(IH:zgC nn){w0 w:World}{ab lb:Nat}{f:Fd}{d:Dt}{fr n:Int}{r:Nat}{x:Int}(h:RdIn w0 w ab lb f d fr n r x)(hk:f.k=19)(hdp:zaN d<=nn+1) :
  Calls Tryz.prog 228 #[.agg #[],.pointer (some ⟨ab,0,none⟩),.int .i64 r,.pointer (some ⟨lb,0,none⟩)] w (zcb w lb (zfN (zay nn) f d r x)):=by
 have W0:=WellD.of h.well;obtain⟨n',o',F⟩:=Fit.of W0.sizes;have hrb:r<=4096:=by have h1:=h.row.2;have h2:=F.few;have h3:=F.off;have h4:=F.len;omega
 obtain⟨hb2,hd1,m,hm,hm1,-,-⟩:=F.dict hk;have hb1:1<d.bufs.length:=by omega
 have hd0:0<d.dict.length:=by omega
 have hpd:=F.partsDict hk;have hp0:0<(zac d).length:=by rw[hpd];exact hd0
 have hpe0:(zac d)[0]=d.dict[0]:=by simp only[hpd]
 obtain⟨n1,o1,G⟩:=Fit.of (WellD.of (W0.parts 0 hp0)).sizes;have hlen:d.dict[0].len=n1:=by rw[<-hpe0];exact G.len
 have hn1:n1<=4096:=by have:=G.few;omega
 have H:=zh h;have hx0:=h.x;have hlbw:=h.box.lt;obtain⟨fp,fc,bp,bc,kp,kc,dp,dc,hbx,hf,hd⟩:=h.arr.at';have hdi:=DAt.dictAt hd;unfold zdt at hbx;obtain⟨-,hl1,hl2⟩:=zam hdi;simp only[List.length_map] at hl1;unfold maxLen at hl2;obtain⟨kb,ko,b3p,b3c,k3p,k3c,d3p,d3c,rfl,-,t0,-,-,-,-,-,-⟩:=zci hdi 0 hd0;simp only[Nat.zero_mul,Nat.add_zero] at t0;rw[hlen] at t0;have HT0:=zh t0;have p5:=hbx.row 5 _ rfl;have hlt:=hbx.lt;obtain⟨W1,hW,a0,a1,hBW⟩:=zbt w 165 [] 39 [.bool false,.int .i64 0,.string ⟨#[]⟩,.slice none 0 0];have HW:=zh hW;have A1:=zh a1;have HBW:=zh hBW;have P12:=zh ((hbx.below hBW hbx.lt).row 12 _ rfl);have HARR:=zh (h.arr.below hBW);have HBz1:=zh (h.b0.trans (hBW.mono h.b0.size));have HPC:=zh (fun(W:World) (hb:Below w0.heap.size w0 W) (hA:ArrAt w0 W ab f d fr n)=>zdT hb hA 0 (zeN F hp0) hp0);have L1:=zh ((LeftAt.refl h.box).below hBW);have HSZ:=zh hBW.size;have HNB:=zh (zgW HBz1.o HARR.o hb1 f.ix hm hm1 r (by omega));have hs1:=zeR hb1;rw[hs1] at HNB;have hnb:=znm f.ix (buf d 1) r;obtain⟨nf,hnf⟩:∃nf,zcv f.ix (buf d 1) r=nf:=⟨_,rfl⟩;rw[hnf] at HNB hnb;have hLW:IntKind.u64.wrap (n1:Int)=n1:=show(n1:Int) % 18446744073709551616=n1 by omega
 obtain⟨N,hN⟩:∃N,IntKind.u64.wrap nf=N:=⟨_,rfl⟩;have hNb:0<=N/\N<18446744073709551616:=by rw[<-hN];show 0<=nf % 18446744073709551616/\nf % 18446744073709551616<18446744073709551616;omega
 have HFV:=zh (show zfN (zay nn) f d r x=if(n1:Int)<=N then none else zay nn (zat f 0) (zac d)[0] ((zac d)[0].off.toNat+N.toNat) x by
  unfold zfN;rw[hnf,hN,List.getElem?_eq_getElem hd0];simp only[Option.map_some,Option.getD_some,hlen,hLW];split
  ·rfl
  ·exact zge hp0)
 have HNN:=zh hN;have HLW:=zh hLW;have HM1:=zh (show(zac d)[0].len=n1 by rw[hpe0];exact hlen);have HDP:=zh (show zaN (zac d)[0]<=nn by have:=zcf (List.getElem_mem hp0);omega);have HIH:=zh IH;have hdz:(0:Int)<(d.dict.length:Int):=by omega
 clear h hW a0 a1 hBW W0 F IH hbx hf hd hdi hm hs1 hnf hN hLW hpe0 hdp G hlen t0;obtain⟨res,hres⟩:∃res,zfN (zay nn) f d r x=res:=⟨_,rfl⟩;rw[hres] at HFV ⊢;clear hres
 go_in
 go_wp2_with fail;rw[<-HW.o];clear HW;refine HNB.o.mono ?_;rintro e W2 ⟨rfl,hb2'⟩;have HL2:=zh (L1.o.below hb2');have B1:=zh (A1.o.below hb2' A1.o.lt);have HBz2:=zh (HBz1.o.trans (hb2'.mono HBz1.o.size));have HAR2:=zh (HARR.o.below hb2');have p12:=zaa hb2' P12.o;have x0:=zaa HBz2.o HT0.o;have hN:=HNN.o;have hLW:=HLW.o;clear hb2' p5;by_cases hge:(n1:Int)<=N
 ·have HN:=zh (show res=none by rw[HFV.o,if_pos hge]);go_wp2_with fail;exact zaT HN.o HL2.o
 ·have HFV2:=zh (show res=zay nn (zat f 0) (zac d)[0] ((zac d)[0].off.toNat+N.toNat) x by rw[HFV.o,if_neg hge]);obtain⟨j,rfl⟩:=Int.eq_ofNat_of_zero_le hNb.1;rw[Int.toNat_natCast] at HFV2;go_wp2_with fail;clear hN hLW HFV;refine(HPC.o W2 HBz2.o HAR2.o).mono ?_;rintro e W3 ⟨b2,rfl,hn3,hA3,hb3⟩;have HL3:=zh (HL2.o.below hb3);have HA3:=zh hA3;have C1:=zh (B1.o.below hb3 B1.o.lt);have HN3:=zh (Nat.le_trans HL2.o.grown.size hn3);have HRD:=zh (H.o.child HL3.o hx0 hp0 HA3.o HN3.o (i:=j) (by rw[HM1.o];omega));have hj:(j:Int)<n1:=by omega
  clear hn3 hA3 hb3 p12 x0;go_wp2_with fail;refine(HIH.o w0 W3 b2 lb _ _ j x HRD.o HDP.o).mono ?_;rw[<-HFV2.o];rintro e W4 (⟨hn,rfl,z,hz⟩|⟨v,z,vs,hv,rfl,hvat,hz,hzb⟩)
  ·have HL4:=zh (HL3.o.trans hz);have HN:=zh hn;clear hn hz;go_wp2_with fail;exact zaT HN.o HL4.o
  have HL4:=zh (HL3.o.trans hz);have HN:=zh hv;have hlt3:=C1.o.lt;have hne1:w.heap.size+1≠lb:=by omega
  have f1:=C1.o.kept hz.grown (by intro e;cases e;omega);have HSZ3:=zh HL3.o.grown.size;have HV:=zh hvat;obtain⟨pp,pc,rfl,-⟩:=hvat.shape;have F1:=zh f1;obtain⟨m0,m1,m2,m3⟩:=rr4 f1.row;obtain⟨z0,z1,z2,z3⟩:=ff4 f1;have hl1:=f1.lt;clear hz hv f1 hvat;go_wp2_with fail;exact zbS (i:=8) rfl (zaS rfl F1.o _ _ _ _) HN.o (HV.o.keep fun b hb hlt=>⟨zaQ (by have hb':W3.heap.size<=b:=hb;omega) _ _ _ _,(by have hb':W3.heap.size<=b:=hb;have:=HSZ3.o;omega)⟩) (LeftAt.put4 HL4.o (by omega) hne1 _ _ _ _) hzb rfl
theorem zqc:Tryz.prog.underlying 37=some (.slice 39):=by kernel_rfl
theorem zgZ:∃i z,Tryz.prog.info? 39=some i/\i.zero=some z/\z.cells.size=4/\i.size=4/\i.bytes=56:=⟨_,_,rfl,rfl,rfl,rfl,rfl⟩
theorem GrowS.left {S:Nat->Prop}{e:TypeId}{sz:Nat}{W W':World}{base lb:Nat}{v:Value}{rows:List (List M)}{css:List (List Value)}(h:GrowS S e sz W base v rows css)(hg:W.grownBy W' (some lb))(hS:∀b,S b->b≠lb)(hb:lb<base):GrowS S e sz W' base v rows css:=by
 have ho:v.ownBlock≠some lb:=fun e=>by have:=(h.g.own.lt lb e).1;omega
 exact⟨h.g.kept hg (.inr ho) (fun j h1 h2=>(h.s j h1 h2).mono fun b hb'=>⟨hb'.2,fun e=>hS b hb'.1 (Option.some.inj e)⟩),fun j h1 h2=>(h.s j h1 h2).keep fun b hb' hlt=>⟨hg.block b hlt (fun e=>hS b hb'.1 (Option.some.inj e)),hb'⟩⟩
theorem GrowS.far {S:Nat->Prop}{e:TypeId}{sz:Nat}{W:World}{base:Nat}{v:Value}{rows:List (List M)}{css:List (List Value)}(h:GrowS S e sz W base v rows css){a:Addr}(ha:a.block<base)(hS:∀b,S b->b≠a.block)(u:Value):GrowS S e sz (W.setCell a u) base v rows css:=
 ⟨h.g.setBelow ha (fun j h1 h2=>(h.s j h1 h2).mono fun b hb'=>⟨hb'.2,hS b hb'.1⟩) u,fun j h1 h2=>(h.s j h1 h2).keep fun b hb' _=>⟨Below.heap_setCell _ _ _ b (hS b hb'.1),hb'⟩⟩
theorem LeftAt.own {w W W1:World}{lb:Nat}{y:Int}{v:Value}(h:LeftAt w W lb y)(hg:W.grownBy W1 v.ownBlock)(hv:∀b,v.ownBlock=some b->w.heap.size<=b)(hlb:lb<w.heap.size):LeftAt w W1 lb y:=
 ⟨⟨hg.os.trans h.grown.os,hg.tape.trans h.grown.tape,hg.output.trans h.grown.output,Nat.le_trans h.grown.size hg.size,fun i hi hn=>(hg.block i (Nat.lt_of_lt_of_le hi h.grown.size) (fun e=>by have:=hv i e.symm;omega)).trans (h.grown.block i hi hn)⟩,h.box.kept hg (fun e=>by have:=hv lb e.symm;omega)⟩
theorem LeftAt.far {w W:World}{lb:Nat}{y:Int}(h:LeftAt w W lb y){a:Addr}(ha:w.heap.size<=a.block)(hlb:lb<w.heap.size)(u:Value):LeftAt w (W.setCell a u) lb y:=
 ⟨⟨h.grown.os,h.grown.tape,h.grown.output,by rw[World.size_setCell];exact h.grown.size,fun i hi hn=>(Below.heap_setCell _ _ _ i (by omega)).trans (h.grown.block i hi hn)⟩,h.box.other (by omega) u⟩
theorem znp {g:Nat->Int->Rd}{N k:Nat}{acc:List Vl}{y:Int}(hk:k<N)(h:g k y=none){i:Nat}(hi:i=k):zbD g (N-k) i acc y=none:=by
 subst hi;obtain⟨m,hm⟩:∃m,N-i=m+1:=⟨N-i-1,by omega⟩;rw[hm];unfold zbD;rw[h]
theorem zmn {g:Nat->Int->Rd}{n i:Nat}{acc:List Vl}{y:Int}(hn:0<n)(h:g i y=none):zbD g n i acc y=none:=by
 obtain⟨m,hm⟩:∃m,n=m+1:=⟨n-1,by omega⟩;rw[hm];unfold zbD;rw[h]
theorem zi3 {g:Nat->Int->Rd}{n i:Nat}{acc:List Vl}{y z:Int}{v:Vl}(hn:0<n)(h:g i y=some (v,z)):zbD g n i acc y=zbD g (n-1) (i+1) (acc ++ [v]) z:=by
 obtain⟨m,hm⟩:∃m,n=m+1:=⟨n-1,by omega⟩;rw[hm];conv=>lhs;unfold zbD;rw[h]
 rfl
theorem zlk {f:Fd}{d:Dt}{n o:Nat}(F:Fit f d n o)(hk:f.k=17):zac d=d.kids/\d.kids.length<=33/\∀j (hj:j<d.kids.length),((n+o:Nat):Int)<=d.kids[j].len:=by
 have hp:=F.parts (show f.k≠19 by omega);refine⟨hp,by have:=zfM F;rw[hp] at this;exact this,fun j hj=>?_⟩;have h:=F.kid j hj;unfold zey at h;simp only[Bool.or_eq_false_iff,Bool.and_eq_false_iff,decide_eq_false_iff_not] at h;rcases h.2 with h|h
 ·exact absurd hk h
 ·omega
theorem zkw {nn:Nat}(IH:zgC nn){w0 w:World}{ab lb:Nat}{f:Fd}{d:Dt}{fr n:Int}{r:Nat}{x:Int}(h:RdIn w0 w ab lb f d fr n r x)(hk:f.k=17)(hdp:zaN d<=nn+1) :
  Calls Tryz.prog 226 #[.agg #[],.pointer (some ⟨ab,0,none⟩),.int .i64 r,.pointer (some ⟨lb,0,none⟩)] w (zcb w lb (zeP (zay nn) f d r x)):=by
 obtain⟨i1,z1,hi1,hz1,hzc1,hsz1,hby1⟩:=zgZ;have W0:=WellD.of h.well;obtain⟨n',o',F⟩:=Fit.of W0.sizes;have hrr:r<n'+o':=by have h1:=h.row.2;have h3:=F.off;have h4:=F.len;omega
 have hrb:r<=4096:=by have h2:=F.few;omega
 obtain⟨hpd,hfew,hkl⟩:=zlk F hk;have hlen:(zac d).length=d.kids.length:=by rw[hpd]
 have hpl:∀k (hk:k<(zac d).length),(r:Int)<(zac d)[k].len:=fun k hk=>by
  have:=hkl k (by omega);simp only[hpd];omega
 have H:=zh h;have hx0:=h.x;have hlbw:=h.box.lt;obtain⟨fp,fc,bp,bc,kp,kc,dp,dc,hbx,hf,hd⟩:=h.arr.at';unfold zdt at hbx;have hki:=DAt.kidsAt hd;obtain⟨-,hl1,hl2⟩:=zam hki;simp only[List.length_map] at hl1;unfold maxLen at hl2;obtain⟨W1,hW,a0,a1,a2,hBW⟩:=zbG w 163 [] 39 [.bool false,.int .i64 0,.string ⟨#[]⟩,.slice none 0 0] 39 [.bool false,.int .i64 0,.string ⟨#[]⟩,.slice none 0 0];have HW:=zh hW;have A1:=zh a1;have A2:=zh a2;have HBW:=zh hBW;have P11:=zh (hbx.row 11 _ rfl);have hab:=hbx.lt;have L1:=zh ((LeftAt.refl h.box).below hBW);have HPC:=zh (fun(k:Nat) (hk:k<(zac d).length) (W:World) (hb:Below w0.heap.size w0 W) (hA:ArrAt w0 W ab f d fr n)=>zdT hb hA k (zeN F hk) hk);have HDP:=zh (fun(k:Nat) (hk:k<(zac d).length)=>show zaN (zac d)[k]<=nn by have:=zcf (List.getElem_mem hk);omega);have HIH:=zh IH;have HPL:=zh hpl;have HLEN:=zh hlen;have hsz1':=hBW.size;have hw3:W1.heap.size=w.heap.size+3:=by rw[hW,World.size_alloc,World.size_alloc,World.size_alloc]
 have HW3:=zh hw3;obtain⟨gg,hgg⟩:∃gg:Nat->Int->Rd,gg=fun k y=>zdE (zay nn) f d k r y:=⟨_,rfl⟩;have HGG:=zh (fun(k:Nat) (y:Int) (hk:k<(zac d).length)=>show gg k y=zay nn (zat f k) (zac d)[k] ((zac d)[k].off.toNat+r) y by rw[hgg];exact zge hk);have HFV:=zh (show zeP (zay nn) f d r x=if x-16<0 then none else(zbD gg d.kids.length 0 [] (x-16)).map fun lz=>(.mk false 0 ⟨#[]⟩ lz.1,lz.2) by rw[hgg];rfl);obtain⟨res,hres⟩:∃res,zeP (zay nn) f d r x=res:=⟨_,rfl⟩;rw[hres] at HFV ⊢;clear h hW a0 a1 a2 hBW W0 F IH hbx hf hd hki hkl hpl hlen hpd hdp hgg hres hw3 hrr;generalize d.kids.length=nk at *
 go_in
 go_wp2_with fail;rw[<-HW.o];clear HW;refine(zc1 L1.o.box hx0 16 (by omega)).mono ?_;rintro e W2 ⟨hl,⟨hneg,rfl⟩|⟨hpos,rfl⟩⟩
 ·have HL:=zh (L1.o.trans hl);have HN:=zh (show res=none by rw[HFV.o,if_pos hneg]);clear hl hneg;go_wp2_with fail;exact zaT HN.o HL.o
 have HL2:=zh (L1.o.trans hl);have hlt1:=A1.o.lt;have hlt2:=A2.o.lt;have hne1:w.heap.size+1≠lb:=by omega
 have hne2:w.heap.size+1+1≠lb:=by omega
 have B1:=zh (A1.o.kept hl.grown (by intro e;cases e;omega));have B2:=zh (A2.o.kept hl.grown (by intro e;cases e;omega));have p11:=HL2.o.grown.block ab hab (by intro e;exact H.o.far.2 (Option.some.inj e));have q11:W2.cell? ⟨ab,11,none⟩=some (.slice kp nk kc):=(World.cell?_of_block (show W2.heap[(⟨ab,11,none⟩:Addr).block]?=w.heap[(⟨ab,11,none⟩:Addr).block]? from p11)).trans P11.o;obtain⟨RES,hRES⟩:∃RES,zbD gg nk 0 [] (x-16)=RES:=⟨_,rfl⟩;have HFV2:=zh (show res=RES.map fun lz=>(.mk false 0 ⟨#[]⟩ lz.1,lz.2) by rw[HFV.o,if_neg (by omega),hRES]);have HRES:=zh hRES;have hsz2:w.heap.size+3<=W2.heap.size:=by have:=hl.grown.size;have:=HW3.o;omega
 have HSZ2:=zh hsz2;clear hl p11 hRES HFV hsz2;go_wp2_with fail;clear q11
 go_loopw [19] (fun i wr=>∃(k:Nat) (q:Option Addr) (c:Nat) (acc:List Vl) (css:List (List Value)) (y:Int),k<=nk/\i=.int .i64 k/\(0<=y/\y<=4194304)/\Hid (BoxN wr (w.heap.size+1+1) 39 [.bool false,.int .i64 0,.string ⟨#[]⟩,.slice q k c])/\Hid (BoxN wr (w.heap.size+1) 39 [.bool false,.int .i64 0,.string ⟨#[]⟩,.slice none 0 0])/\Hid (GrowS (fun b=>w.heap.size+3<=b) 39 4 wr (w.heap.size+3) (.slice q k c) (acc.map vlR) css)/\Hid (acc.length=k)/\Hid (LeftAt w wr lb y)/\Hid (w.heap.size+3<=wr.heap.size)/\Hid (zbD gg (nk-k) k acc y=RES)) (fun i _=>nk-(intOf i).toNat)
 case atStart=>exact⟨0,none,0,[],[],x-16,by omega,rfl,⟨hpos,by omega⟩,B2,B1,zh (GrowS.nil _ _ _ _ _),zh rfl,HL2,HSZ2,zh (by rw[Nat.sub_zero];exact HRES.o)⟩
 case round=>
  obtain⟨k,q,c,acc,css,y,hk,rfl,hy,R2,R1,HG,HAL,HL,HSZ,HR⟩:=hrel;have hsz:=HSZ.o;by_cases hlt:k<nk
  ·have hkp:k<(zac d).length:=by rw[HLEN.o];exact hlt
   have hs0:wr.drew.cell? ⟨w.heap.size+1+1,3,none⟩=some (.slice q k c):=R2.o.row 3 _ rfl;have HS0:=zh hs0;have HBz:=zh (zaf (HL.o.base H.o.b0 H.o.far.1));have HAR:=zh ((H.o.arr.kept HL.o.grown (by intro e;exact H.o.far.2 (Option.some.inj e))).below (zaf (Below.refl _ wr)));have HPK:=zh (HPC.o k hkp);have HGK:=zh (HGG.o k y hkp);clear hs0;go_wp2_with fail;obtain⟨wd,hwd⟩:=nm (wr.drew);refine Late.region (fun w'=>w'.cell? ⟨w.heap.size+1+1,3,none⟩=some (.slice q k c)) (fun i=>i == 11) (by kernel_rfl) ?_;have HLd:=zh (show LeftAt w wd lb y by rw[hwd];exact HL.o.below (zaf (Below.refl _ wr)));have R1d:=zh (show BoxN wd (w.heap.size+1) 39 [.bool false,.int .i64 0,.string ⟨#[]⟩,.slice none 0 0] by rw[hwd];exact R1.o);have R2d:=zh (show BoxN wd (w.heap.size+1+1) 39 [.bool false,.int .i64 0,.string ⟨#[]⟩,.slice q k c] by rw[hwd];exact R2.o);have HGd:=zh (show GrowS (fun b=>w.heap.size+3<=b) 39 4 wd (w.heap.size+3) (.slice q k c) (acc.map vlR) css by rw[hwd];exact HG.o.below (zaf (Below.refl _ wr)));have hszd:w.heap.size+3<=wd.heap.size:=by rw[hwd];exact hsz
   rw[<-hwd] at HS0 HBz HAR ⊢;clear hwd HG HL R1 R2;refine Late.ta (i:=0) (v:=?_) ?_ HS0.o ?_;rotate_left
   ·intro w' hS;clear hS;go_simp;rfl
   refine Late.ta (i:=1) (v:=?_) ?_ HS0.o ?_;rotate_left
   ·intro w' hS;have s1:=hS;clear hS;go_simp;rfl
   refine Late.ta (i:=2) (v:=?_) ?_ HS0.o ?_;rotate_left
   ·intro w' hS;clear hS;go_simp;rfl
   refine Late.ta (i:=3) (v:=?_) ?_ HS0.o ?_;rotate_left
   ·intro w' hS;clear hS;go_simp;rfl
   refine Late.ta (i:=5) (v:=?_) ?_ HS0.o ?_;rotate_left
   ·intro w' hS;clear hS;go_simp;rfl
   refine Late.ta (i:=6) (v:=?_) ?_ HS0.o ?_;rotate_left
   ·intro w' hS;clear hS;go_simp;rfl
   refine Late.on (i:=4) fun K hK=>?_;go_simp;refine(HPK.o wd HBz.o HAR.o).mono ?_;rintro e W3 ⟨b3,rfl,hn3,hA3,hb3⟩;have HL3:=zh (HLd.o.below hb3);have HA3:=zh hA3;have HS3:=zh (zaa hb3 HS0.o);have HG3:=zh (HGd.o.below hb3);have S1:=zh (R1d.o.below hb3 R1d.o.lt);have S2:=zh (R2d.o.below hb3 R2d.o.lt);have HRD:=zh (H.o.child HL3.o hy hkp HA3.o (by have:=HLd.o.grown.size;omega) (HPL.o k hkp));have hsz3:w.heap.size+3<=W3.heap.size:=Nat.le_trans hszd hb3.size;clear hn3 hA3 hb3;refine hK _ _ (fun _=>HS3.o) ?_;clear hK K;refine Late.on (i:=7) fun K hK=>?_;go_simp;refine(HIH.o w0 W3 b3 lb _ _ r y HRD.o (HDP.o k hkp)).mono ?_;rw[<-HGK.o];rintro e W4 (⟨hn,rfl,z,hz⟩|⟨v,z,vs,hv,rfl,hvat,hz,hzb⟩)
   ·have HL4:=zh (HL3.o.trans hz);have HN:=zh (show res=none by rw[HFV2.o,<-HR.o,znp hlt hn rfl];rfl);clear hn hz;exact zaT (fn:=Tryz.f226) HN.o HL4.o
   have HL4:=zh (HL3.o.trans hz);have HRV:=zh (show zbD gg (nk-(k+1)) (k+1) (acc ++ [v]) z=RES by rw[<-HR.o,zi3 (by omega) hv,show nk-(k+1)=nk-k-1 by omega]);have hs2:=S2.o.lt;have hs1:=S1.o.lt;have T1:=zh (S1.o.kept hz.grown (by intro e;cases e;omega));have T2:=zh (S2.o.kept hz.grown (by intro e;cases e;omega));have HS4:=zh (T2.o.row 3 _ rfl);have HG4:=zh (HG3.o.left hz.grown (fun b hb=>by omega) (by omega));have hsz4:w.heap.size+3<=W4.heap.size:=Nat.le_trans hsz3 hz.grown.size;have hoff:∀j,(Value.slice q k c).ownBlock=some j->w.heap.size+3<=j/\j<W3.heap.size:=fun j e=>HG3.o.g.own.lt j e;have HV:=zh (show VAt (fun b=>w.heap.size+3<=b/\(Value.slice q k c).ownBlock≠some b) W4 v vs from hvat.mono fun b hb=>⟨by omega,fun e=>by have:=hoff b e;omega⟩);have HOFF:=zh (fun j e=>(hoff j e).1);obtain⟨pp,pc,rfl,-⟩:=hvat.shape;clear hz hvat hoff;refine hK _ _ (fun _=>HS4.o) ?_;clear hK K;refine Late.on (i:=8) fun K hK=>?_;go_simp;obtain⟨Z,hZ⟩:=nm (W4.alloc (.cells #[.bool v.nl,.int .i64 v.num,.string v.tx,.slice pp v.kids.length pc] 39));have hbZ:Below W4.heap.size W4 Z:=by rw[hZ];exact(Below.refl _ W4).alloc (Nat.le_refl _) _
   have HZB:=zh (show BoxN Z W4.heap.size 39 (v4 v pp pc) by rw[hZ];exact BoxN.new W4 39 _);have hZs:Z.heap.size=W4.heap.size+1:=by rw[hZ,World.size_alloc]
   rw[<-hZ];have HL5:=zh (HL4.o.below hbZ);have U1:=zh (T1.o.below hbZ T1.o.lt);have U2:=zh (T2.o.below hbZ T2.o.lt);have HS5:=zh (U2.o.row 3 _ rfl);have HG5:=zh (HG4.o.below hbZ);have HV5:=zh (HV.o.below hbZ);have htk:(acc.map vlR).length=k:=by rw[List.length_map];exact HAL.o
   have hown:=HG5.o.g.own;rw[htk] at hown;have HOW:=zh hown;have HTK:=zh htk;clear hZ hbZ hown htk;refine hK _ _ (fun _=>HS5.o) ?_;clear hK K;refine Late.on (i:=9) fun K hK=>?_;refine step_append_lies _ (by rfl) _ _ _ (by rfl) (w.heap.size+3) 39 i1 z1 4 56 zqc hi1 hz1 (by assumption) hby1 hzc1 (by decide) (.slice q k c) k (css.flatMap id) (by rfl) HOW.o ⟨W4.heap.size,0,none⟩ 1 1 (v4 v pp pc) (by rfl) rfl (World.news_of_block HZB.o) (by simp[Value.oneCell']) (by decide) (by unfold maxLen;omega) (by omega) (by omega) Z.heap.size rfl ?_;intro gg' cap1 w1 hown1 hgrow hat hlt1;have G1:=zh (HG5.o.push HV5.o rfl HTK.o hown1 hgrow hat);have X1:=zh (U1.o.kept hgrow (by intro e;have:=HOFF.o _ e.symm;omega));have X2:=zh (U2.o.kept hgrow (by intro e;have:=HOFF.o _ e.symm;omega));have HL6:=zh (HL5.o.own hgrow (fun b e=>by have:=HOFF.o b e;omega) hlbw);have HS6:=zh (X2.o.row 3 _ rfl);have hsz6:w.heap.size+3<=w1.heap.size:=by have:=hgrow.size;omega
   clear hown1 hgrow hat hlt1;refine hK _ _ (fun _=>HS6.o) ?_;clear hK K;refine Late.on (i:=10) fun K hK=>?_;go_simp;refine hK _ _ (fun _=>HS6.o) ?_;clear hK K;have m3:=X2.o.row 3 _ rfl;have zz3:=X2.o.frozen 3;have hx2:=X2.o.lt;refine Late.on (i:=11) fun K hK=>?_;go_simp;refine hK _ _ (fun h=>by cases h) ?_;clear hK K;refine Late.done (by kernel_rfl) ?_ _;have Y2:=zh (X2.o.set 3 (.slice (some ⟨gg',0,none⟩) (k+1) cap1));have Y1:=zh (X1.o.other (a:=⟨w.heap.size+1+1,3,none⟩) (by show w.heap.size+1≠w.heap.size+1+1;omega) (.slice (some ⟨gg',0,none⟩) (k+1) cap1));have HG7:=zh (G1.o.far (a:=⟨w.heap.size+1+1,3,none⟩) (by show w.heap.size+1+1<w.heap.size+3;omega) (fun b hb=>by show b≠w.heap.size+1+1;omega) (.slice (some ⟨gg',0,none⟩) (k+1) cap1));have HL7:=zh (HL6.o.far (a:=⟨w.heap.size+1+1,3,none⟩) (by show w.heap.size<=w.heap.size+1+1;omega) hlbw (.slice (some ⟨gg',0,none⟩) (k+1) cap1));have HSZ7:=zh (show w.heap.size+3<=(w1.setCell ⟨w.heap.size+1+1,3,none⟩ (.slice (some ⟨gg',0,none⟩) (k+1) cap1)).heap.size by rw[World.size_setCell];exact hsz6);have HAL7:=zh (show(acc ++ [v]).length=k+1 by rw[List.length_append,HAL.o];rfl);clear m3 zz3;go_wp2_with fail;go_roundw
   case rel=>exact⟨k+1,some ⟨gg',0,none⟩,cap1,acc ++ [v],_,z,by omega,by go_num,hzb,Y2,Y1,by rw[List.map_append];exact HG7,HAL7,HL7,HSZ7,HRV⟩
   case measure=>simp[intOf];omega
  ·have hkn:k=nk:=by omega
   have HN:=zh (show res=some (.mk false 0 ⟨#[]⟩ acc,y) by rw[HFV2.o,<-HR.o,show nk-k=0 by omega];rfl);have HLI:=zh (GrowS.list (by decide) HG.o (fun b hb=>hb));have HAK:=zh (show acc.length=k from HAL.o);obtain⟨n0,n1,n2,n3⟩:=rr4 R2.o.row;obtain⟨m0,m1,m2,m3⟩:=rr4 R1.o.row;obtain⟨z0,z1,z2,z3⟩:=ff4 R1.o;have hl1:=R1.o.lt;have hl2':=R2.o.lt;clear hkn;go_wp2_with fail;exact zbS (i:=8) rfl (zaS rfl R1.o _ _ _ _) HN.o (VAt.make false 0 ⟨#[]⟩ acc (M.At.keep (fun b hb hlt=>⟨zaQ (by have hb':w.heap.size+3<=b:=hb;omega) _ _ _ _,(by have hb':w.heap.size+3<=b:=hb;omega)⟩) HLI.o)) (LeftAt.put4 HL.o (by omega) hne1 _ _ _ _) hy rfl
theorem GrowS.mono {S T:Nat->Prop}{e:TypeId}{sz:Nat}{W:World}{base:Nat}{v:Value}{rows:List (List M)}{css:List (List Value)}(h:GrowS S e sz W base v rows css)(hST:∀b,S b->T b):GrowS T e sz W base v rows css:=⟨h.g,fun j h1 h2=>(h.s j h1 h2).mono fun b hb=>⟨hST b hb.1,hb.2⟩⟩
theorem ArrAt.other {w0 w:World}{b:Nat}{f:Fd}{d:Dt}{fr n:Int}(h:ArrAt w0 w b f d fr n){a:Addr}(hne:b≠a.block)(u:Value):ArrAt w0 (w.setCell a u) b f d fr n:=by
 obtain⟨fp,fc,bp,bc,kp,kc,dp,dc,h1,h2,h3⟩:=h.at';exact⟨fp,fc,bp,bc,kp,kc,dp,dc,h1.other hne u,h2,h3⟩
theorem znq {f:Fd}{d:Dt}{n o:Nat}(F:Fit f d n o)(hk:f.k=15\/f.k=16):zac d=d.kids/\0<d.kids.length/\(f.k=16->1<=f.wd/\f.wd<=64)/\(f.k≠16->1<d.bufs.length) /\
  ∀(h0:0<d.kids.length) (r:Nat) (p q:Int),r<n+o->zcT f d r=some (p,q)->0<=p/\p<=q/\q<=d.kids[0].len:=by
 have hp:=F.parts (show f.k≠19 by omega);have h1:=zaW (zaE F.may).1 (show f.k=15\/f.k=16\/f.k=19\/f.k=20 by omega);have hkl:d.kids.length=1:=by rw[F.nk,zde F.may (by omega) (by omega)];exact h1
 refine⟨hp,by omega,zfK (zaE F.may).1,fun h16=>by have:=(F.list (by omega)).1;omega,fun h0 r p q hr hi=>?_⟩;unfold zcT at hi;by_cases h16:f.k=16
 ·rw[if_pos h16] at hi;cases hi;obtain⟨w1,w2⟩:=zfK (zaE F.may).1 h16;have hkb:=F.kid 0 h0;unfold zey at hkb;simp only[Bool.or_eq_false_iff,Bool.and_eq_false_iff,decide_eq_false_iff_not] at hkb;obtain⟨m,hm⟩:=Int.eq_ofNat_of_zero_le (show 0<=f.wd by omega);rw[hm] at hkb ⊢;have h2:¬d.kids[0].len<((n+o:Nat):Int)*(m:Int):=by
   rcases hkb.1 with h|h
   ·exact absurd h16 h
   ·exact h
  have h3:(r+1)*m<=(n+o)*m:=Nat.mul_le_mul_right m hr;have h4:r*m<=(r+1)*m:=Nat.mul_le_mul_right m (by omega);refine⟨?_,?_,?_⟩
  ·exact Int.mul_nonneg (by omega) (by omega)
  ·have:=Int.ofNat_le.2 h4
   push_cast at this
   exact this
  ·have h5:=Int.ofNat_le.2 h3
   push_cast at h5 h2
   omega
 ·rw[if_neg h16] at hi;have:=zj5 hi;rw[List.getElem?_eq_getElem h0] at this;exact this
theorem zmo {nn:Nat}(IH:zgC nn){w0 w:World}{ab lb:Nat}{f:Fd}{d:Dt}{fr n:Int}{r:Nat}{x:Int}(h:RdIn w0 w ab lb f d fr n r x)(hk:f.k=15\/f.k=16)(hdp:zaN d<=nn+1) :
  Calls Tryz.prog 223 #[.agg #[],.pointer (some ⟨ab,0,none⟩),.int .i64 r,.pointer (some ⟨lb,0,none⟩)] w (zcb w lb (zgB (zay nn) f d r x)):=by
 obtain⟨i1,z1,hi1,hz1,hzc1,hsz1,hby1⟩:=zgZ;have W0:=WellD.of h.well;obtain⟨n',o',F⟩:=Fit.of W0.sizes;have hrr:r<n'+o':=by have h1:=h.row.2;have h3:=F.off;have h4:=F.len;omega
 have hrb:r<=4096:=by have h2:=F.few;omega
 obtain⟨hpd,hk0,h16,h15,hit⟩:=znq F hk;have hp0:0<(zac d).length:=by rw[hpd];exact hk0
 have hpe:(zac d)[0]=d.kids[0]:=by simp only[hpd]
 obtain⟨n1,o1,G⟩:=Fit.of (WellD.of (W0.parts 0 hp0)).sizes;have hlen:(zac d)[0].len=n1:=G.len;have hn1:n1<=4096:=by have:=G.few;omega
 have H:=zh h;have hx0:=h.x;have hlbw:=h.box.lt;obtain⟨W1,hW,a0,a1,a2,hBW⟩:=zbG w 162 [] 39 [.bool false,.int .i64 0,.string ⟨#[]⟩,.slice none 0 0] 39 [.bool false,.int .i64 0,.string ⟨#[]⟩,.slice none 0 0];have HW:=zh hW;have A1:=zh a1;have A2:=zh a2;have HBW:=zh hBW;have L1:=zh ((LeftAt.refl h.box).below hBW);have HARR:=zh (h.arr.below hBW);have HBz1:=zh (h.b0.trans (hBW.mono h.b0.size));have HIT:=zh (zmj HBz1.o HARR.o h16 h15 hk0 r (by omega));have HPC:=zh (fun(W:World) (hb:Below w0.heap.size w0 W) (hA:ArrAt w0 W ab f d fr n)=>zdT hb hA 0 (zeN F hp0) hp0);have HDP:=zh (show zaN (zac d)[0]<=nn by have:=zcf (List.getElem_mem hp0);omega);have HIH:=zh IH;have HLEN:=zh hlen;have HIQ:=zh (fun(p q:Int) (hi:zcT f d r=some (p,q))=>show 0<=p/\p<=q/\q<=n1 by have:=hit hk0 r p q hrr hi;rw[<-hpe,hlen] at this;exact this);have hw3:W1.heap.size=w.heap.size+3:=by rw[hW,World.size_alloc,World.size_alloc,World.size_alloc]
 have HW3:=zh hw3;obtain⟨gg,hgg⟩:∃gg:Nat->Int->Rd,gg=zdE (zay nn) f d 0:=⟨_,rfl⟩;have HGG:=zh (fun(i:Nat) (y:Int)=>show gg i y=zay nn (zat f 0) (zac d)[0] ((zac d)[0].off.toNat+i) y by rw[hgg];exact zge hp0);have HFV:=zh (show zgB (zay nn) f d r x=match zcT f d r with|none=>none|some (p,q)=>if x-16<0 then none else(zbD gg (q-p).toNat p.toNat [] (x-16)).map fun lz=>(.mk false 0 ⟨#[]⟩ lz.1,lz.2) by rw[hgg];rfl);obtain⟨res,hres⟩:∃res,zgB (zay nn) f d r x=res:=⟨_,rfl⟩;rw[hres] at HFV ⊢;obtain⟨o,ho⟩:∃o,zcT f d r=o:=⟨_,rfl⟩;rw[ho] at HFV HIT;have HO:=zh ho;clear h hW a0 a1 a2 hBW W0 F G IH hit hpe hpd hdp hgg hres hw3 hrr hlen ho h16 h15 hk0 hk
 go_in
 go_wp2_with fail;rw[<-HW.o];clear HW;refine HIT.o.mono ?_;rintro e W2 ⟨hb2,⟨hn,rfl⟩|⟨p,q,ho,rfl⟩⟩
 ·have HL:=zh (L1.o.below hb2);have HN:=zh (show res=none by rw[HFV.o,hn]);clear hb2 hn;go_wp2_with fail;exact zaT HN.o HL.o
 subst ho;obtain⟨g0,g1,g2⟩:=HIQ.o p q HO.o;obtain⟨a,rfl⟩:=Int.eq_ofNat_of_zero_le g0;obtain⟨zz,rfl⟩:=Int.eq_ofNat_of_zero_le (Int.le_trans g0 g1);have g1':a<=zz:=by omega
 have g2':zz<=n1:=by omega
 have HFV1:=zh (show res=if x-16<0 then none else(zbD gg (zz-a) a [] (x-16)).map fun lz=>(.mk false 0 ⟨#[]⟩ lz.1,lz.2) by
  rw[HFV.o];simp only[Int.toNat_natCast];rw[show((zz:Int)-(a:Int)).toNat=zz-a by omega])
 have HL2:=zh (L1.o.below hb2);have B1:=zh (A1.o.below hb2 A1.o.lt);have B2:=zh (A2.o.below hb2 A2.o.lt);have hsz2:=hb2.size;clear hb2 HFV HIT HO HIQ g0 g1 g2;go_wp2_with fail;refine(zc1 HL2.o.box hx0 16 (by omega)).mono ?_;rintro e W3 ⟨hl,⟨hneg,rfl⟩|⟨hpos,rfl⟩⟩
 ·have HL:=zh (HL2.o.trans hl);have HN:=zh (show res=none by rw[HFV1.o,if_pos hneg]);clear hl hneg;go_wp2_with fail;exact zaT HN.o HL.o
 have HL3:=zh (HL2.o.trans hl);have hlt1:=A1.o.lt;have hlt2:=A2.o.lt;have hne1:w.heap.size+1≠lb:=by omega
 have hne2:w.heap.size+1+1≠lb:=by omega
 have C1:=zh (B1.o.kept hl.grown (by intro e;cases e;omega));have C2:=zh (B2.o.kept hl.grown (by intro e;cases e;omega));obtain⟨RES,hRES⟩:∃RES,zbD gg (zz-a) a [] (x-16)=RES:=⟨_,rfl⟩;have HFV2:=zh (show res=RES.map fun lz=>(.mk false 0 ⟨#[]⟩ lz.1,lz.2) by rw[HFV1.o,if_neg (by omega),hRES]);have HRES:=zh hRES;have hsz3:w.heap.size+3<=W3.heap.size:=by have:=hl.grown.size;have:=HW3.o;omega
 have HPK:=zh (HPC.o W3 (HL3.o.base H.o.b0 H.o.far.1) (H.o.arr.kept HL3.o.grown (by intro e;exact H.o.far.2 (Option.some.inj e))));clear hl hRES HFV1;go_wp2_with fail;refine HPK.o.mono ?_;rintro e W4 ⟨b4,rfl,hn4,hA4,hb4⟩;have HL4:=zh (HL3.o.below hb4);have HA4:=zh hA4;have D1:=zh (C1.o.below hb4 C1.o.lt);have D2:=zh (C2.o.below hb4 C2.o.lt);have HSZ4:=zh (Nat.le_trans hsz3 hb4.size);have hbn:w.heap.size+3<=b4:=Nat.le_trans hsz3 hn4;clear hn4 hA4 hb4 hsz3;go_wp2_with fail
 go_loopw [13] (fun i wr=>∃(j k:Nat) (q:Option Addr) (c:Nat) (acc:List Vl) (css:List (List Value)) (y:Int),(j<=zz/\j<=k+a/\k+a<=j)/\i=.int .i64 j/\(0<=y/\y<=4194304)/\Hid (BoxN wr (w.heap.size+1+1) 39 [.bool false,.int .i64 0,.string ⟨#[]⟩,.slice q k c])/\Hid (BoxN wr (w.heap.size+1) 39 [.bool false,.int .i64 0,.string ⟨#[]⟩,.slice none 0 0])/\Hid (GrowS (fun b=>w.heap.size+3<=b/\b≠b4) 39 4 wr (b4+1) (.slice q k c) (acc.map vlR) css)/\Hid (acc.length=k)/\Hid (LeftAt w wr lb y)/\Hid (b4+1<=wr.heap.size)/\Hid (ArrAt w0 wr b4 (zat f 0) (zac d)[0] (zac d)[0].off (zac d)[0].len)/\Hid (zbD gg (zz-j) j acc y=RES)) (fun i _=>zz-(intOf i).toNat)
 case atStart=>exact⟨a,0,none,0,[],[],x-16,by omega,rfl,⟨hpos,by omega⟩,D2,D1,zh (GrowS.nil _ _ _ _ _),zh rfl,HL4,zh HA4.o.lt,HA4,zh HRES.o⟩
 case round=>
  obtain⟨j,k,q,c,acc,css,y,⟨hj1,hj2,hj3⟩,rfl,hy,R2,R1,HG,HAL,HL,HSZ,HAR,HR⟩:=hrel;have hsz:=HSZ.o;by_cases hlt:j<zz
  ·have hs0:wr.drew.cell? ⟨w.heap.size+1+1,3,none⟩=some (.slice q k c):=R2.o.row 3 _ rfl;have HS0:=zh hs0;have HGK:=zh (HGG.o j y);clear hs0;go_wp2_with fail;obtain⟨wd,hwd⟩:=nm (wr.drew);refine Late.region (fun w'=>w'.cell? ⟨w.heap.size+1+1,3,none⟩=some (.slice q k c)) (fun i=>i == 9) (by kernel_rfl) ?_;have HL3:=zh (show LeftAt w wd lb y by rw[hwd];exact HL.o.below (zaf (Below.refl _ wr)));have S1:=zh (show BoxN wd (w.heap.size+1) 39 [.bool false,.int .i64 0,.string ⟨#[]⟩,.slice none 0 0] by rw[hwd];exact R1.o);have S2:=zh (show BoxN wd (w.heap.size+1+1) 39 [.bool false,.int .i64 0,.string ⟨#[]⟩,.slice q k c] by rw[hwd];exact R2.o);have HG3:=zh (show GrowS (fun b=>w.heap.size+3<=b/\b≠b4) 39 4 wd (b4+1) (.slice q k c) (acc.map vlR) css by rw[hwd];exact HG.o.below (zaf (Below.refl _ wr)));have HA3:=zh (show ArrAt w0 wd b4 (zat f 0) (zac d)[0] (zac d)[0].off (zac d)[0].len by rw[hwd];exact HAR.o.below (zaf (Below.refl _ wr)));have hszd:b4+1<=wd.heap.size:=by rw[hwd];exact hsz
   have HRD:=zh (H.o.child HL3.o hy hp0 HA3.o (i:=j) (by omega) (by rw[HLEN.o];omega));rw[<-hwd] at HS0 ⊢;clear hwd HG HL R1 R2 HAR;refine Late.ta (i:=0) (v:=?_) ?_ HS0.o ?_;rotate_left
   ·intro w' hS;clear hS;go_simp;rfl
   refine Late.ta (i:=1) (v:=?_) ?_ HS0.o ?_;rotate_left
   ·intro w' hS;have s1:=hS;clear hS;go_simp;rfl
   refine Late.ta (i:=2) (v:=?_) ?_ HS0.o ?_;rotate_left
   ·intro w' hS;clear hS;go_simp;rfl
   refine Late.ta (i:=3) (v:=?_) ?_ HS0.o ?_;rotate_left
   ·intro w' hS;clear hS;go_simp;rfl
   refine Late.ta (i:=4) (v:=?_) ?_ HS0.o ?_;rotate_left
   ·intro w' hS;clear hS;go_simp;rfl
   refine Late.on (i:=5) fun K hK=>?_;go_simp;refine(HIH.o w0 wd b4 lb _ _ j y HRD.o HDP.o).mono ?_;rw[<-HGK.o];rintro e W5 (⟨hn,rfl,z,hz⟩|⟨v,z,vs,hv,rfl,hvat,hz,hzb⟩)
   ·have HL5x:=zh (HL3.o.trans hz);have HN:=zh (show res=none by rw[HFV2.o,<-HR.o,zmn (by omega) hn];rfl);clear hn hz;exact zaT (fn:=Tryz.f223) HN.o HL5x.o
   have HL5x:=zh (HL3.o.trans hz);have HRV:=zh (show zbD gg (zz-(j+1)) (j+1) (acc ++ [v]) z=RES by rw[<-HR.o,zi3 (by omega) hv,show zz-(j+1)=zz-j-1 by omega]);have hs2:=S2.o.lt;have hs1:=S1.o.lt;have T1:=zh (S1.o.kept hz.grown (by intro e;cases e;omega));have T2:=zh (S2.o.kept hz.grown (by intro e;cases e;omega));have HS4:=zh (T2.o.row 3 _ rfl);have HG4:=zh (HG3.o.left hz.grown (fun b hb=>by omega) (by omega));have hsz4:b4+1<=W5.heap.size:=Nat.le_trans hszd hz.grown.size;have HA4':=zh (HA3.o.kept hz.grown (by intro e;cases e;omega));have hoff:∀j,(Value.slice q k c).ownBlock=some j->b4+1<=j/\j<wd.heap.size:=fun j e=>HG3.o.g.own.lt j e;have HV:=zh (show VAt (fun b=>(w.heap.size+3<=b/\b≠b4)/\(Value.slice q k c).ownBlock≠some b) W5 v vs from hvat.mono fun b hb=>⟨⟨by omega,by omega⟩,fun e=>by have:=hoff b e;omega⟩);have HOFF:=zh (fun j e=>(hoff j e).1);obtain⟨pp,pc,rfl,-⟩:=hvat.shape;clear hz hvat hoff;refine hK _ _ (fun _=>HS4.o) ?_;clear hK K;refine Late.on (i:=6) fun K hK=>?_;go_simp;obtain⟨Z,hZ⟩:=nm (W5.alloc (.cells #[.bool v.nl,.int .i64 v.num,.string v.tx,.slice pp v.kids.length pc] 39));have hbZ:Below W5.heap.size W5 Z:=by rw[hZ];exact(Below.refl _ W5).alloc (Nat.le_refl _) _
   have HZB:=zh (show BoxN Z W5.heap.size 39 (v4 v pp pc) by rw[hZ];exact BoxN.new W5 39 _);have hZs:Z.heap.size=W5.heap.size+1:=by rw[hZ,World.size_alloc]
   rw[<-hZ];have HL6x:=zh (HL5x.o.below hbZ);have U1:=zh (T1.o.below hbZ T1.o.lt);have U2:=zh (T2.o.below hbZ T2.o.lt);have HS5:=zh (U2.o.row 3 _ rfl);have HG5:=zh (HG4.o.below hbZ);have HA5:=zh (HA4'.o.below hbZ);have HV5:=zh (HV.o.below hbZ);have htk:(acc.map vlR).length=k:=by rw[List.length_map];exact HAL.o
   have hown:=HG5.o.g.own;rw[htk] at hown;have HOW:=zh hown;have HTK:=zh htk;clear hZ hbZ hown htk;refine hK _ _ (fun _=>HS5.o) ?_;clear hK K;refine Late.on (i:=7) fun K hK=>?_;refine step_append_lies _ (by rfl) _ _ _ (by rfl) (b4+1) 39 i1 z1 4 56 zqc hi1 hz1 (by assumption) hby1 hzc1 (by decide) (.slice q k c) k (css.flatMap id) (by rfl) HOW.o ⟨W5.heap.size,0,none⟩ 1 1 (v4 v pp pc) (by rfl) rfl (World.news_of_block HZB.o) (by simp[Value.oneCell']) (by decide) (by unfold maxLen;omega) (by omega) (by omega) Z.heap.size rfl ?_;intro gg' cap1 w1 hown1 hgrow hat hlt1;have G1:=zh (HG5.o.push HV5.o rfl HTK.o hown1 hgrow hat);have HA6:=zh (HA5.o.kept hgrow (by intro e;have:=HOFF.o _ e.symm;omega));have X1:=zh (U1.o.kept hgrow (by intro e;have:=HOFF.o _ e.symm;omega));have X2:=zh (U2.o.kept hgrow (by intro e;have:=HOFF.o _ e.symm;omega));have HL7x:=zh (HL6x.o.own hgrow (fun b e=>by have:=HOFF.o b e;omega) hlbw);have HS6:=zh (X2.o.row 3 _ rfl);have hsz6:b4+1<=w1.heap.size:=by have:=hgrow.size;omega
   clear hown1 hgrow hat hlt1;refine hK _ _ (fun _=>HS6.o) ?_;clear hK K;refine Late.on (i:=8) fun K hK=>?_;go_simp;refine hK _ _ (fun _=>HS6.o) ?_;clear hK K;have m3:=X2.o.row 3 _ rfl;have zz3:=X2.o.frozen 3;have hx2:=X2.o.lt;refine Late.on (i:=9) fun K hK=>?_;go_simp;refine hK _ _ (fun h=>by cases h) ?_;clear hK K;refine Late.done (by kernel_rfl) ?_ _;have Y2:=zh (X2.o.set 3 (.slice (some ⟨gg',0,none⟩) (k+1) cap1));have Y1:=zh (X1.o.other (a:=⟨w.heap.size+1+1,3,none⟩) (by show w.heap.size+1≠w.heap.size+1+1;omega) (.slice (some ⟨gg',0,none⟩) (k+1) cap1));have HG7:=zh (G1.o.far (a:=⟨w.heap.size+1+1,3,none⟩) (by show w.heap.size+1+1<b4+1;omega) (fun b hb=>by show b≠w.heap.size+1+1;omega) (.slice (some ⟨gg',0,none⟩) (k+1) cap1));have HL8x:=zh (HL7x.o.far (a:=⟨w.heap.size+1+1,3,none⟩) (by show w.heap.size<=w.heap.size+1+1;omega) hlbw (.slice (some ⟨gg',0,none⟩) (k+1) cap1));have HSZ7:=zh (show b4+1<=(w1.setCell ⟨w.heap.size+1+1,3,none⟩ (.slice (some ⟨gg',0,none⟩) (k+1) cap1)).heap.size by rw[World.size_setCell];exact hsz6);have HA8:=zh (HA6.o.other (a:=⟨w.heap.size+1+1,3,none⟩) (by show b4≠w.heap.size+1+1;omega) (.slice (some ⟨gg',0,none⟩) (k+1) cap1));have HAL7:=zh (show(acc ++ [v]).length=k+1 by rw[List.length_append,HAL.o];rfl);clear m3 zz3;go_wp2_with fail;go_roundw
   case rel=>exact⟨j+1,k+1,some ⟨gg',0,none⟩,cap1,acc ++ [v],_,z,by omega,by go_num,hzb,Y2,Y1,by rw[List.map_append];exact HG7,HAL7,HL8x,HSZ7,HA8,HRV⟩
   case measure=>simp[intOf];omega
  ·have hkn:zz-j=0:=by omega
   have HN:=zh (show res=some (.mk false 0 ⟨#[]⟩ acc,y) by rw[HFV2.o,<-HR.o,hkn];rfl);have HLI:=zh (GrowS.list (by decide) (GrowS.mono HG.o (fun b hb=>hb.1)) (fun b hb=>by show w.heap.size+3<=b;omega));have HAK:=zh (show acc.length=k from HAL.o);obtain⟨n0,n1,n2,n3⟩:=rr4 R2.o.row;obtain⟨m0,m1,m2,m3⟩:=rr4 R1.o.row;obtain⟨z0,z1,z2,z3⟩:=ff4 R1.o;have hl1:=R1.o.lt;have hl2':=R2.o.lt;clear hkn;go_wp2_with fail;exact zbS (i:=8) rfl (zaS rfl R1.o _ _ _ _) HN.o (VAt.make false 0 ⟨#[]⟩ acc (M.At.keep (fun b hb hlt=>⟨zaQ (by have hb':w.heap.size+3<=b:=hb;omega) _ _ _ _,(by have hb':w.heap.size+3<=b:=hb;omega)⟩) HLI.o)) (LeftAt.put4 HL.o (by omega) hne1 _ _ _ _) hy rfl
theorem zq6 {S:Nat->Prop}{W:World}{X:Nat}{v:Vl}{vs:List Value}(hb:BoxN W X 39 vs)(hv:VAt S W v vs)(hX:S X)(hl:vs.length=4):M.At S W (.many 4 ([v].map vlR)) (.slice (some ⟨X,0,none⟩) 1 1):=by
 refine M.At.of (rows:=[v].map vlR) ⟨Nat.le_refl _,by decide⟩ (M.RowsAt.mk (by decide) fun i hi=>?_);have h0:i=0:=by simp at hi;omega
 subst h0;refine⟨X,0,vs,rfl,hX,hl,fun j u hj=>?_,hv⟩;rw[show 0+(0+0*4)+j=j by omega];exact hb.row j u hj
theorem zkx {nn:Nat}(IH:zgC nn){w0 w:World}{ab lb:Nat}{f:Fd}{d:Dt}{fr n:Int}{r:Nat}{x:Int}(h:RdIn w0 w ab lb f d fr n r x)(hk:f.k=18)(hdp:zaN d<=nn+1) :
  Calls Tryz.prog 227 #[.agg #[],.pointer (some ⟨ab,0,none⟩),.int .i64 r,.pointer (some ⟨lb,0,none⟩)] w (zcb w lb (zek (zay nn) f d r x)):=by
 have W0:=WellD.of h.well;obtain⟨n',o',F⟩:=Fit.of W0.sizes;have hrb:r<=4096:=by have h1:=h.row.2;have h2:=F.few;have h3:=F.off;have h4:=F.len;omega
 obtain⟨hb2,hkl,-,-⟩:=F.choice hk;have hb0:0<d.bufs.length:=by omega
 have hb1:1<d.bufs.length:=by omega
 have hpd:=F.parts (show f.k≠19 by omega);have hfew:=zfM F;rw[hpd] at hfew;have H:=zh h;have hx0:=h.x;have hlbw:=h.box.lt;obtain⟨fp,fc,bp,bc,kp,kc,dp,dc,hbx,hf,hd⟩:=h.arr.at';have hki:=DAt.kidsAt hd;unfold zdt at hbx;obtain⟨-,hl1,hl2⟩:=zam hki;simp only[List.length_map] at hl1;unfold maxLen at hl2;obtain⟨W1,hW,a0,a1,hBW⟩:=zbt w 164 [] 39 [.bool false,.int .i64 0,.string ⟨#[]⟩,.slice none 0 0];have HW:=zh hW;have A1:=zh a1;have HBW:=zh hBW;have HARR:=zh (h.arr.below hBW);have HBz1:=zh (h.b0.trans (hBW.mono h.b0.size));have HB0:=zh (zcg HBz1.o HARR.o 0 hb0);have HB1:=zh (fun(W:World) (hb:Below w0.heap.size w0 W) (hA:ArrAt w0 W ab f d fr n)=>zcg hb hA 1 hb1);have L1:=zh ((LeftAt.refl h.box).below hBW);have hs0:=zeR hb0;have hs1:=zeR hb1;rw[hs0] at HB0;rw[hs1] at HB1;have P11:=zh (hbx.row 11 _ rfl);have hab:=hbx.lt;have HKI:=zh hki;have hbb:=za1 (buf d 0) r;obtain⟨c,hc⟩:=Int.eq_ofNat_of_zero_le hbb.1;obtain⟨j,hj⟩:∃j,zbc (buf d 1) (4*r) 4=j:=⟨_,rfl⟩;have hjb:=zgu (buf d 1) (4*r) 4;rw[hj] at hjb;have hcb:c<256:=by omega
 have HPC:=zh (fun(k:Nat) (hk:k<(zac d).length) (W:World) (hb:Below w0.heap.size w0 W) (hA:ArrAt w0 W ab f d fr n)=>zdT hb hA k (zeN F hk) hk);have HDP:=zh (fun(k:Nat) (hk:k<(zac d).length)=>show zaN (zac d)[k]<=nn by have:=zcf (List.getElem_mem hk);omega);have HPD:=zh hpd;have HIH:=zh IH;have HFV:=zh (show zek (zay nn) f d r x=if(d.kids.length:Int)<=(c:Int)\/j<0\/((d.kids[c]?).map Dt.len).getD 0<=j then none
 else if x-16<0 then none
 else(zdE (zay nn) f d c j.toNat (x-16)).map fun vz=>(.mk false (c:Int) ⟨#[]⟩ [vz.1],vz.2) by
  unfold zek;rw[hc,hj];rfl)
 have HC:=zh hc;have HJ:=zh hj;obtain⟨res,hres⟩:∃res,zek (zay nn) f d r x=res:=⟨_,rfl⟩;rw[hres] at HFV ⊢;clear h hW a0 a1 hBW W0 F IH hbx hf hd hki hc hj hs0 hs1 hpd hdp hkl hb2 hres hbb
 go_in
 go_wp2_with fail;rw[<-HW.o];clear HW;refine HB0.o.mono ?_;rintro e W2 ⟨q2,c2,rfl,hat2,hb2'⟩;have HAT2:=zh (M.At.below (HBz1.o.trans (hb2'.mono HBz1.o.size)) hat2);have HL2:=zh (L1.o.below hb2');have A2:=zh (A1.o.below hb2' A1.o.lt);clear hat2 hb2';go_wp2_with fail;refine(zgt HAT2.o r (by omega)).mono ?_;rintro e W3 ⟨rfl,hb3⟩;rw[HC.o];have HL3:=zh (HL2.o.below hb3);have A3:=zh (A2.o.below hb3 A2.o.lt);clear hb3;go_wp2_with fail;refine(HB1.o W3 (HL3.o.base H.o.b0 H.o.far.1) (H.o.arr.kept HL3.o.grown (by intro e;exact H.o.far.2 (Option.some.inj e)))).mono ?_;rintro e W4 ⟨q4,c4,rfl,hat4,hb4⟩;have HL4:=zh (HL3.o.below hb4);have A4:=zh (A3.o.below hb4 A3.o.lt);have HAT4:=zh (M.At.below (HL4.o.base H.o.b0 H.o.far.1) hat4);clear hat4 hb4;go_wp2_with fail;refine(zdl HAT4.o (4*r) 4 (by omega) (by omega)).mono ?_;rintro e W5 ⟨rfl,hb5⟩;rw[HJ.o];have HL5:=zh (HL4.o.below hb5);have hgA:W5.heap[ab]?=w.heap[ab]?:=HL5.o.grown.block ab hab (by intro e;exact H.o.far.2 (Option.some.inj e));have q11:W5.cell? ⟨ab,11,none⟩=some (.slice kp d.kids.length kc):=(World.cell?_of_block (show W5.heap[(⟨ab,11,none⟩:Addr).block]?=w.heap[(⟨ab,11,none⟩:Addr).block]? from hgA)).trans P11.o;have B1:=zh (A4.o.below hb5 A4.o.lt);clear hb5 hgA;by_cases h1:(d.kids.length:Int)<=(c:Int)
 ·have HN:=zh (show res=none by rw[HFV.o,if_pos (.inl h1)]);go_wp2_with fail;exact zaT HN.o HL5.o
 have h1d:decide (d.kids.length<=c)=false:=decide_eq_false (by omega);by_cases h2:j<0
 ·have HN:=zh (show res=none by rw[HFV.o,if_pos (.inr (.inl h2))]);go_wp2_with fail;exact zaT HN.o HL5.o
 have h2d:decide (j<0)=false:=decide_eq_false h2;obtain⟨jj,rfl⟩:=Int.eq_ofNat_of_zero_le (show 0<=j by omega);have hcl:c<d.kids.length:=by omega
 obtain⟨kb,ko,b3p,b3c,k3p,k3c,d3p,d3c,rfl,-,t0,-,-,-,-,-,-⟩:=zci HKI.o c hcl;have x0:=zaa (HL5.o.base H.o.b0 H.o.far.1) t0;obtain⟨ln,hln⟩:∃ln,d.kids[c].len=ln:=⟨_,rfl⟩;rw[hln] at x0;have HLN:=zh hln;have HFV1:=zh (show res=if ln<=(jj:Int) then none else if x-16<0 then none
 else(zdE (zay nn) f d c jj (x-16)).map fun vz=>(.mk false (c:Int) ⟨#[]⟩ [vz.1],vz.2) by
  rw[HFV.o,List.getElem?_eq_getElem hcl];simp only[Option.map_some,Option.getD_some,hln,Int.toNat_natCast];by_cases h3:ln<=(jj:Int)
  ·rw[if_pos (.inr (.inr h3)),if_pos h3]
  ·rw[if_neg (by rintro(g|g|g);exact h1 g;exact h2 g;exact h3 g),if_neg h3])
 clear t0 hln HFV;by_cases h3:ln<=(jj:Int)
 ·have HN:=zh (show res=none by rw[HFV1.o,if_pos h3]);have h3d:decide (ln<=(jj:Int))=true:=decide_eq_true h3;go_wp2_with fail;exact zaT HN.o HL5.o
 have h3d:decide (ln<=(jj:Int))=false:=decide_eq_false h3;have HFV2:=zh (show res=if x-16<0 then none
 else(zdE (zay nn) f d c jj (x-16)).map fun vz=>(.mk false (c:Int) ⟨#[]⟩ [vz.1],vz.2) by rw[HFV1.o,if_neg h3])
 clear HFV1;have hzc:(c:Int)<(d.kids.length:Int):=by omega
 go_wp2_with fail;refine(zc1 HL5.o.box hx0 16 (by omega)).mono ?_;rintro e W6 ⟨hl,⟨hneg,rfl⟩|⟨hpos,rfl⟩⟩
 ·have HL:=zh (HL5.o.trans hl);have HN:=zh (show res=none by rw[HFV2.o,if_pos hneg]);clear hl hneg;go_wp2_with fail;exact zaT HN.o HL.o
 have hcp:c<(zac d).length:=by rw[HPD.o];exact hcl
 have HL6:=zh (HL5.o.trans hl);have hlt1:=B1.o.lt;have hlt0:=A1.o.lt;have hne1:w.heap.size+1≠lb:=by omega
 have C1:=zh (B1.o.kept hl.grown (by intro e;cases e;omega));have HFV3:=zh (show res=(zay nn (zat f c) (zac d)[c] ((zac d)[c].off.toNat+jj) (x-16)).map fun vz=>(.mk false (c:Int) ⟨#[]⟩ [vz.1],vz.2) by rw[HFV2.o,if_neg (by omega),zge hcp]);have HPK:=zh (HPC.o c hcp W6 (HL6.o.base H.o.b0 H.o.far.1) (H.o.arr.kept HL6.o.grown (by intro e;exact H.o.far.2 (Option.some.inj e))));have HLP:=zh (show(jj:Int)<(zac d)[c].len by
  have e:(zac d)[c]=d.kids[c]:=by simp only[HPD.o]
  rw[e,HLN.o];omega)
 clear hl HFV2 x0 q11;go_wp2_with fail;refine HPK.o.mono ?_;rintro e W7 ⟨b7,rfl,hn7,hA7,hb7⟩;have HL7:=zh (HL6.o.below hb7);have D1:=zh (C1.o.below hb7 C1.o.lt);have HRD:=zh (H.o.child HL7.o (y:=x-16) ⟨hpos,by omega⟩ hcp hA7 (Nat.le_trans HL6.o.grown.size hn7) HLP.o);clear hn7 hA7 hb7;go_wp2_with fail;refine(HIH.o w0 W7 b7 lb _ _ jj (x-16) HRD.o (HDP.o c hcp)).mono ?_;rintro e W8 (⟨hn,rfl,z,hz⟩|⟨v,z,vs,hv,rfl,hvat,hz,hzb⟩)
 ·have HL8:=zh (HL7.o.trans hz);have HN:=zh (show res=none by rw[HFV3.o,hn];rfl);clear hn hz;go_wp2_with fail;exact zaT HN.o HL8.o
 have HL8:=zh (HL7.o.trans hz);have HN:=zh (show res=some (.mk false (c:Int) ⟨#[]⟩ [v],z) by rw[HFV3.o,hv];rfl);have hlt3:=D1.o.lt;have f1:=D1.o.kept hz.grown (by intro e;cases e;omega);have HSZ7:=zh HL7.o.grown.size;have hsz8:=HL8.o.grown.size;have hsz78:=hz.grown.size;have HV:=zh hvat;obtain⟨pp,pc,rfl,-⟩:=hvat.shape;have F1:=zh f1;obtain⟨m0,m1,m2,m3⟩:=rr4 f1.row;obtain⟨z0,z1,z2,z3⟩:=ff4 f1;have hl1':=f1.lt;clear hz hv f1 hvat HFV3;go_wp2_with fail;obtain⟨PW,hPW⟩:=nm (put4 W8 (w.heap.size+1) (.bool false) (.int .i64 (c:Int)) (.string ⟨#[]⟩) (.slice (some ⟨W8.heap.size,0,none⟩) 1 1));have g1:BoxN PW (w.heap.size+1) 39 [.bool false,.int .i64 (c:Int),.string ⟨#[]⟩,.slice (some ⟨W8.heap.size,0,none⟩) 1 1]:=by rw[hPW];exact zaS rfl F1.o _ _ _ _
 have g2:VAt (fun b=>w.heap.size<=b) PW v (v4 v pp pc):=by rw[hPW];exact HV.o.keep fun b hb hlt=>⟨zaQ (by have hb':W7.heap.size<=b:=hb;omega) _ _ _ _,(by have hb':W7.heap.size<=b:=hb;have:=HSZ7.o;omega)⟩
 have g3:LeftAt w PW lb z:=by rw[hPW];exact LeftAt.put4 HL8.o (by omega) hne1 _ _ _ _
 have g4:PW.heap.size=W8.heap.size:=by rw[hPW];simp only[World.size_setCell]
 rw[show(((W8.setCell ⟨w.heap.size+1,0,none⟩ (.bool false)).setCell ⟨w.heap.size+1,1,none⟩ (.int .i64 (c:Int))).setCell ⟨w.heap.size+1,2,none⟩ (.string ⟨#[]⟩)).setCell ⟨w.heap.size+1,3,none⟩ (.slice (some ⟨W8.heap.size,0,none⟩) 1 1)=PW from hPW.symm];have hbA:Below PW.heap.size PW (PW.alloc (.cells #[.bool v.nl,.int .i64 v.num,.string v.tx,.slice pp v.kids.length pc] 39)):=(Below.refl _ PW).alloc (Nat.le_refl _) _;exact zbS (i:=8) rfl (g1.alloc _) HN.o (VAt.make false (c:Int) ⟨#[]⟩ [v] (zq6 (BoxN.new' g4 39 (v4 v pp pc)) (g2.below hbA) (by show w.heap.size<=W8.heap.size;omega) rfl)) (g3.below hbA) hzb rfl
theorem zmO (rec:RdF){f:Fd}{d:Dt}{r:Nat}{x:Int}:zeQ rec f d r x =
 (if f.k=12\/f.k=13 then zgA f d r x else if f.k=15\/f.k=16 then zgB rec f d r x else if f.k=17 then zeP rec f d r x
 else if f.k=18 then zek rec f d r x else if f.k=19 then zfN rec f d r x else if f.k=20 then zfO rec f d r x else flatV f d r x):=rfl
theorem zmP {f:Fd}{d:Dt}{n o:Nat}(F:Fit f d n o):1<=f.k/\f.k<=20:=by
 have h:=(zaE F.may).1;unfold zaU at h;simp only[Bool.and_eq_true,decide_eq_true_eq] at h;exact h.1
def zkD (k:Int):TypeId:=if k=12\/k=13 then 161 else if k=15\/k=16 then 162 else if k=17 then 163 else if k=18 then 164 else if k=19 then 165 else if k=20 then 166 else 167
def zjB (k:Int):FuncId:=if k=12\/k=13 then 216 else if k=15\/k=16 then 223 else if k=17 then 226 else if k=18 then 227 else if k=19 then 228 else if k=20 then 230 else 232
theorem zqH (k:Int):(∀w:World,(method 390 (zkD k) (.agg #[]) "colonnade/array.read").run Tryz.prog w=.ok (zjB k,.agg #[]) w)/\∀(args:Array Value) (w:World),(callFunc (zjB k) args).run Tryz.prog w=.ok (.enter (zjB k) args) w:=by
 unfold zkD zjB;by_cases h12:k=12\/k=13
 ·simp only[if_pos h12];exact⟨fun w=>rfl,enters_of Tryz.func216 (by kernel_rfl) rfl⟩
 simp only[if_neg h12];by_cases h15:k=15\/k=16
 ·simp only[if_pos h15];exact⟨fun w=>rfl,enters_of Tryz.func223 (by kernel_rfl) rfl⟩
 simp only[if_neg h15];by_cases h17:k=17
 ·simp only[if_pos h17];exact⟨fun w=>rfl,enters_of Tryz.func226 (by kernel_rfl) rfl⟩
 simp only[if_neg h17];by_cases h18:k=18
 ·simp only[if_pos h18];exact⟨fun w=>rfl,enters_of Tryz.func227 (by kernel_rfl) rfl⟩
 simp only[if_neg h18];by_cases h19:k=19
 ·simp only[if_pos h19];exact⟨fun w=>rfl,enters_of Tryz.func228 (by kernel_rfl) rfl⟩
 simp only[if_neg h19];by_cases h20:k=20
 ·simp only[if_pos h20];exact⟨fun w=>rfl,enters_of Tryz.func230 (by kernel_rfl) rfl⟩
 simp only[if_neg h20];exact⟨fun w=>rfl,enters_of Tryz.func232 (by kernel_rfl) rfl⟩
def zry (nn:Nat):Prop:=∀(w0 w:World) (ab lb:Nat) (f:Fd) (d:Dt) (fr n:Int) (r:Nat) (x:Int),RdIn w0 w ab lb f d fr n r x->zaN d<=nn+1->f.k≠1 ->
 ∀fn,fn=(if f.k=12\/f.k=13 then 216 else if f.k=15\/f.k=16 then 223 else if f.k=17 then 226 else if f.k=18 then 227 else if f.k=19 then 228 else if f.k=20 then 230 else 232) ->
 Calls Tryz.prog fn #[.agg #[],.pointer (some ⟨ab,0,none⟩),.int .i64 r,.pointer (some ⟨lb,0,none⟩)] w (zcb w lb (zeQ (zay nn) f d r x))
theorem zq7 {nn:Nat}(IH:zgC nn):zry nn:=fun w0 w ab lb f d fr n r x h hdp h1 fn hfn=>by
 obtain⟨n',o',F⟩:=Fit.of (WellD.of h.well).sizes;have hk:=zmP F;rw[zmO];by_cases h12:f.k=12\/f.k=13
 ·rw[if_pos h12] at hfn ⊢;subst hfn;exact zml h h12
 rw[if_neg h12] at hfn ⊢;by_cases h15:f.k=15\/f.k=16
 ·rw[if_pos h15] at hfn ⊢;subst hfn;exact zmo IH h h15 hdp
 rw[if_neg h15] at hfn ⊢;by_cases h17:f.k=17
 ·rw[if_pos h17] at hfn ⊢;subst hfn;exact zkw IH h h17 hdp
 rw[if_neg h17] at hfn ⊢;by_cases h18:f.k=18
 ·rw[if_pos h18] at hfn ⊢;subst hfn;exact zkx IH h h18 hdp
 rw[if_neg h18] at hfn ⊢;by_cases h19:f.k=19
 ·rw[if_pos h19] at hfn ⊢;subst hfn;exact zmm IH h h19 hdp
 rw[if_neg h19] at hfn ⊢;by_cases h20:f.k=20
 ·rw[if_pos h20] at hfn ⊢;subst hfn;exact zno IH h h20 hdp
 rw[if_neg h20] at hfn ⊢;subst hfn;exact zmk h (by omega)
theorem zmp {nn:Nat}(IH:zgC nn){w0 w:World}{ab lb:Nat}{f:Fd}{d:Dt}{fr n:Int}{r:Nat}{x:Int}(h:RdIn w0 w ab lb f d fr n r x)(hdp:zaN d<=nn+1) :
  Calls Tryz.prog 71 #[.pointer (some ⟨ab,0,none⟩),.int .i64 r,.pointer (some ⟨lb,0,none⟩)] w (zcb w lb (zay (nn+1) f d r x)):=by
 obtain⟨n',o',F⟩:=Fit.of (WellD.of h.well).sizes;have hrb:r<=4096:=by have h1:=h.row.2;have h2:=F.few;have h3:=F.off;have h4:=F.len;omega
 have H:=zh h;have hx0:=h.x;have hlbw:=h.box.lt;obtain⟨fp,fc,bp,bc,kp,kc,dp,dc,hbx,hf,hd⟩:=h.arr.at';unfold zdt at hbx;have p16:=hbx.row 16 _ rfl;have hab:=hbx.lt;obtain⟨W1,hW,a0,hBW⟩:=zao w 39 [.bool false,.int .i64 0,.string ⟨#[]⟩,.slice none 0 0];have HW:=zh hW;have A0:=zh a0;have HBW:=zh hBW;have P16:=zh p16;have L1:=zh ((LeftAt.refl h.box).below hBW);have HNA:=zh (zli (h.b0.trans (hBW.mono h.b0.size)) (h.arr.below hBW) F.valid r (by omega));have HDP:=zh hdp;have HIH:=zh IH;have HFV:=zh (show zay (nn+1) f d r x=if zaF f.k d.bufs r=true then(if x-16<0 then none else some (.mk true 0 ⟨#[]⟩ [],x-16)) else zeQ (zay nn) f d r x from rfl);obtain⟨res,hres⟩:∃res,zay (nn+1) f d r x=res:=⟨_,rfl⟩;rw[hres] at HFV ⊢;have HN1:=zh (show zaF f.k d.bufs r=false->f.k≠1 from fun hn h1=>by unfold zaF at hn;rw[if_pos h1] at hn;cases hn);obtain⟨nb,hnb⟩:∃nb,zaF f.k d.bufs r=nb:=⟨_,rfl⟩;rw[hnb] at HFV HNA HN1;clear h hW a0 hBW F hbx hf hd hdp IH hres hnb p16
 go_in
 go_wp2_with fail;rw[<-HW.o];clear HW;refine HNA.o.mono ?_;rintro e W2 ⟨rfl,hb2⟩;have HL2:=zh (L1.o.below hb2);have A2:=zh (A0.o.below hb2 A0.o.lt);have HB2:=zh (HBW.o.trans (hb2.mono HBW.o.size));clear hb2;cases nb with
 | true=>
  have HFV1:=zh (show res=if x-16<0 then none else some (.mk true 0 ⟨#[]⟩ [],x-16) by rw[HFV.o,if_pos rfl]);clear HFV HN1;go_wp2_with fail;refine(zc1 HL2.o.box hx0 16 (by omega)).mono ?_;rintro e W3 ⟨hl,⟨hneg,rfl⟩|⟨hpos,rfl⟩⟩
  ·have HL:=zh (HL2.o.trans hl);have HN:=zh (show res=none by rw[HFV1.o,if_pos hneg]);clear hl hneg;go_wp2_with fail;exact zaT HN.o HL.o
  have HL3:=zh (HL2.o.trans hl);have hlt:=A2.o.lt;have hne:w.heap.size≠lb:=by omega
  have f1:=A2.o.kept hl.grown (by intro e;cases e;omega);have HN:=zh (show res=some (.mk true 0 ⟨#[]⟩ [],x-16) by rw[HFV1.o,if_neg (by omega)]);have F1:=zh f1;obtain⟨m0,m1,m2,m3⟩:=rr4 f1.row;obtain⟨z0,z1,z2,z3⟩:=ff4 f1;have hl1':=f1.lt;clear hl f1 HFV1;go_wp2_with fail;exact zbS (i:=6) rfl (zaS rfl F1.o _ _ _ _) HN.o (VAt.flat _ _ _) (LeftAt.put4 HL3.o (by omega) hne _ _ _ _) ⟨hpos,by omega⟩ rfl
 | false=>
  have HFV1:=zh (show res=zeQ (zay nn) f d r x by rw[HFV.o,if_neg (by decide)]);have q16:=zaa HB2.o P16.o;have hab2:ab<W2.heap.size:=Nat.lt_of_lt_of_le hab HB2.o.size;replace q16:W2.cell? ⟨ab,16,none⟩=some (.iface (zkD f.k) (.agg #[])):=q16;obtain⟨hme,hen⟩:=zqH f.k;have HFC:=zh (zq7 HIH.o w0 W2 ab lb f d fr n r x ⟨HL2.o.base H.o.b0 H.o.far.1,H.o.arr.kept HL2.o.grown (by intro e;exact H.o.far.2 (Option.some.inj e)),HL2.o.box,H.o.far,H.o.x,H.o.well,H.o.row,H.o.tabs⟩ HDP.o (HN1.o rfl) (zjB f.k) rfl);generalize zkD f.k=T at *;generalize zjB f.k=FN at *;clear HN1 HFV;go_wp2_with fail;refine HFC.o.mono ?_;rw[<-HFV1.o];rintro e W3 (⟨hn,rfl,z,hz⟩|⟨v,z,vs,hv,rfl,hvat,hz,hzb⟩)
  ·have HL3:=zh (HL2.o.trans hz);have HN:=zh hn;clear hn hz;go_wp2_with fail;exact zaT HN.o HL3.o
  have HL3:=zh (HL2.o.trans hz);have HN:=zh hv;have hlt:=A2.o.lt;have hne:w.heap.size≠lb:=by omega
  have f1:=A2.o.kept hz.grown (by intro e;cases e;omega);have HSZ2:=zh HL2.o.grown.size;have HV:=zh hvat;obtain⟨pp,pc,rfl,-⟩:=hvat.shape;have F1:=zh f1;obtain⟨m0,m1,m2,m3⟩:=rr4 f1.row;obtain⟨z0,z1,z2,z3⟩:=ff4 f1;have hl1':=f1.lt;clear hz hv f1 hvat;go_wp2_with fail;exact zbS (i:=6) rfl (zaS rfl F1.o _ _ _ _) HN.o (HV.o.keep fun b hb hlt=>⟨zaQ (by have hb':W2.heap.size<=b:=hb;omega) _ _ _ _,(by have hb':W2.heap.size<=b:=hb;have:=HSZ2.o;omega)⟩) (LeftAt.put4 HL3.o (by omega) hne _ _ _ _) hzb rfl
end Go.Fld
