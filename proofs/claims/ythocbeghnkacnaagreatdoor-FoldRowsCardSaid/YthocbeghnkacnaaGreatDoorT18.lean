import Derived.Test.YthocbeghnkacnaaGreatDoorT15
import Derived.Test.YthocbeghnkacnaaGreatDoorT17
set_option linter.unusedVariables false
set_option linter.unusedSimpArgs false
set_option linter.unnecessarySimpa false
set_option maxRecDepth 100000
set_option maxHeartbeats 16000000
namespace Go.Fld
open Go Go.RowKit Go.Proofs Go.ChangeShapes Go.WideShapes Go.ChangeAt Go.Shelf Go.Fld.Late
def zc8 (step:Nat->Int):Nat->Int
 | 0=>0
 | k+1=>if zc8 step k=0 then step k else zc8 step k
theorem zhi {step:Nat->Int}{k:Nat}(h:zc8 step k=0)(hs:step k≠0):∀ {n},k<n->zc8 step n=step k:=by
 intro n hn
 induction n with
 | zero=>omega
 | succ n ih=>
  by_cases hk:k=n
  ·subst hk;unfold zc8;rw[if_pos h]
  ·unfold zc8;rw[ih (by omega),if_neg hs]
theorem zgb {step:Nat->Int}{k:Nat}(h:zc8 step k=0)(hs:step k=0):zc8 step (k+1)=0:=by
 unfold zc8;rw[if_pos h,hs]
theorem zne (s:ByteArray)(i:Nat):zaq s i=((s.get! i).toNat:Int):=by
 unfold zaq;rw[<-Lib.getD_get!',List.getD_eq_getElem?_getD,Array.getElem?_toList]
theorem zpw {w:World}{s:ByteArray}{p:Option Addr}{n cap:Nat}(h:M.At (fun _=>True) w (zby s) (.slice p n cap)):0<s.size->∃b o,p=some ⟨b,o,none⟩/\ByIn w b o s:=fun h0=>by
 obtain⟨-,h4⟩:=zaZ h;obtain⟨b,o,rfl,-,-⟩:=h4 0 h0;refine⟨b,o,rfl,fun i hi=>?_⟩;obtain⟨_,_,e,-,c⟩:=h4 i hi;cases e;rw[<-zne];exact c
theorem ziv (t:ByteArray)(a z:Nat)(hz:z<=t.size):(t.extract a z).size=z-a:=by
 rw[ByteArray.size_extract];omega
theorem zqz (t:ByteArray)(a z i:Nat)(hz:z<=t.size)(h:i<z-a):(t.extract a z).get! i=t.get! (a+i):=by
 rw[<-Lib.getD_get!',<-Lib.getD_get!',Lib.extract_data,List.getD_eq_getElem?_getD,List.getD_eq_getElem?_getD,List.getElem?_take_of_lt h,List.getElem?_drop]
theorem ByIn.cut {w:World}{b o:Nat}{t:ByteArray}(h:ByIn w b o t)(a z:Nat)(hz:z<=t.size):ByIn w b (o+a) (t.extract a z):=fun i hi=>by
 rw[ziv t a z hz] at hi;rw[zqz t a z i hz hi,Nat.add_assoc];exact h (a+i) (by omega)
def zhj (f:Fd)(d:Dt)(i:Nat):Int:=if zaF f.k d.bufs (d.off.toNat+i)=true\/Lib.validD (((d.bufs[2]?).getD ByteArray.empty).extract (s32 ((d.bufs[1]?).getD ByteArray.empty) (d.off.toNat+i)).toNat (s32 ((d.bufs[1]?).getD ByteArray.empty) (d.off.toNat+(i+1))).toNat).data.toList=true then 0 else 84
def zct (f:Fd)(d:Dt):Int:=if zcq f d≠0 then zcq f d else if f.k=12 then zc8 (zhj f d) d.len.toNat else 0
theorem zpx {f:Fd}{d:Dt}(h:zcq f d=83):zct f d=83:=by unfold zct;rw[h,if_pos (by omega)]
theorem zgw {s:ByteArray}{o:Nat}{top:Int}:∀ {n},zcR s o top n=true->∀k,k<n->zcs s o k<=s32 s (o+k)/\s32 s (o+k)<=top
 | n+1,h,k,hk=>by
  unfold zcR at h;simp only[Bool.and_eq_true,decide_eq_true_eq] at h;by_cases hkn:k=n
  ·subst hkn;exact h.2
  ·exact zgw h.1 k (by omega)
theorem zjZ {s:ByteArray}{o n:Nat}{top:Int}(h:zcR s o top (n+1)=true)(k:Nat)(hk:k<n):0<=s32 s (o+k)/\s32 s (o+k)<=s32 s (o+(k+1))/\s32 s (o+(k+1))<=top:=by
 have h1:=zgw h (k+1) (by omega);have h0:∀j,j<=n->0<=s32 s (o+j):=by
  intro j hj
  induction j with
  | zero=>exact(zgw h 0 (by omega)).1
  | succ j ih=>exact Int.le_trans (ih (by omega)) (zgw h (j+1) (by omega)).1
 exact⟨h0 k (by omega),h1.1,h1.2⟩
theorem zib {w:World}{f:Fd}{d:Dt}{fs ds:List Value}(hf:FdAt w f fs)(hd:DAt (fun _=>True) w d ds)(n o:Nat)(hn:d.len=n)(ho:d.off=o)(h15:f.k=12\/f.k=13)(hbb:1<d.bufs.length)(hk:2<d.bufs.length)(hs:4*(o+n+1)<=d.bufs[1].size)(hT:Lib.Utf8Tabs 1 2 w) :
  Calls Tryz.prog 86 #[.agg fs.toArray,.agg ds.toArray] w (zcP w (zct f d)):=by
 obtain⟨fp,fc,rfl,-⟩:=hf.shape;obtain⟨bp,bc,kp,kc,dp,dc,rfl,hbu,hki,hdi⟩:=hd.shape;obtain⟨-,hb1,hb2⟩:=zam hbu;obtain⟨-,hk1,hk2⟩:=zam hki;simp only[List.length_map] at hb1 hk1;unfold maxLen at hb2 hk2;obtain⟨bb,bo,yq,yc,rfl,-,hbc,hby⟩:=zbI hbu 1 hbb;obtain⟨⟨-,hy1,hy2⟩,-⟩:=zaZ hby;unfold maxLen at hy2;obtain⟨bb',bo',zq,zc,e',-,hbc2,hby2⟩:=zbI hbu 2 hk;cases e';obtain⟨⟨-,hz1,hz2⟩,-⟩:=zaZ hby2;unfold maxLen at hz2;have c0:=hbc2;have HT:=zh hT;have HZB:=zh hby2;have HF:=zh hf;have HD:=zh hd;have HYC:=zh hbc;have HYB:=zh hby;have HC0:=zh c0;rw[hn,ho];have HNN:=zh hn;have HOO:=zh ho;have H15:=zh h15;obtain⟨tn,htn⟩:=nm (d.bufs[2].size);rw[<-htn] at HC0 hz1 HZB;have HTS:=zh htn;obtain⟨tp,htp⟩:∃tp:Int,tp=(tn:Int):=⟨_,rfl⟩;have HTN:=zh htp;have HTP:Hid (zfw f d=tp):=zh (by unfold zfw;rw[if_neg (by omega),List.getElem?_eq_getElem hk,htp,htn];rfl);clear hT hf hd hbu hki hdi hbc hby hbc2 hby2 c0 hn ho htp htn;obtain⟨W,hW,x0,x1,x2,hBW⟩:=zbG w 26 (f7 f fp fc) 46 [.int .i64 n,.int .i64 o,.int .i64 d.nul,.slice (some ⟨bb,bo,none⟩) d.bufs.length bc,.slice kp d.kids.length kc,.slice dp d.dict.length dc] 69 [.int .i64 0,.slice none 0 0,.int .i64 0];have X0:=zh x0;have X1:=zh x1;have X2:=zh x2;have HBW:=zh hBW;have HW:=zh hW;have r2:=x0.row 2 _ rfl;have r4:=x1.row 4 _ rfl;have r0:=x1.row 0 _ rfl;have c0:W.cell? ⟨bb,bo+2,none⟩=some (.slice zq tn zc):=zaa hBW HC0.o;rw[hW] at c0;have hl0:=x0.lt;have hl1:=x1.lt;have q15:(f.k == 15)=false:=by simp;omega
 clear x0 x1 x2 hBW hW h15
 go_in
 go_wp2_with fail;rw[<-HW.o,<-HTN.o];clear HW c0 r0 r2 r4;have HLE:=zh (show zcs d.bufs[1] o 0=0 from rfl)
 go_loopw [28,6] (fun i t5 wr=>∃k:Nat,k<=n+1/\i=.int .i64 k/\t5=.int .i64 (zcs d.bufs[1] o k)/\Hid (zcR d.bufs[1] o tp k=true)/\Hid (∃q,wr=W.drewN q)) (fun i _ _=>n+1-(intOf i).toNat)
 case atStart=>exact⟨0,by omega,rfl,by rw[HLE.o],zh rfl,zh ⟨0,rfl⟩⟩
 case round=>
  obtain⟨k,hk',rfl,rfl,HUP,HQ⟩:=hrel;obtain⟨q,hq⟩:=HQ.o;have J0:=zh (show BoxN wr w.heap.size 26 (f7 f fp fc) by rw[hq];exact X0.o);have J1:=zh (show BoxN wr (w.heap.size+1) 46 [.int .i64 n,.int .i64 o,.int .i64 d.nul,.slice (some ⟨bb,bo,none⟩) d.bufs.length bc,.slice kp d.kids.length kc,.slice dp d.dict.length dc] by rw[hq];exact X1.o);have J2:=zh (show BoxN wr (w.heap.size+1+1) 69 [.int .i64 0,.slice none 0 0,.int .i64 0] by rw[hq];exact X2.o);have HBR:=zh (show Below w.heap.size w wr by rw[hq];exact zab HBW.o q);have HQ:=zh hq;clear hq;obtain⟨lk,hlk⟩:=nm (zcs d.bufs[1] o k);rw[<-hlk];have HLK:=zh hlk;clear hlk;by_cases hlt:k<n+1
  ·obtain⟨v,hv⟩:=nm (s32 d.bufs[1] (o+k));have N1:Hid (∀t,Calls Tryz.prog 87 #[.slice yq d.bufs[1].size yc,.int .i64 ((o:Int)+(k:Int))] (wr.drewN t) (fun e w'=>e=.returned (.int .i64 v)/\∃m,w'=(wr.drewN t).drewN m)):=zh (fun t=>by
    rw[hv];exact za2 (HYB.o.below (zab HBR.o t)) (o+k) (by omega))
   have HV:=zh hv;have hvb:=zcx d.bufs[1] (o+k);rw[<-hv] at hvb;clear hv;have HST:Hid (zcR d.bufs[1] o tp (k+1)=(decide (lk<=v) && decide (v<=tp))):=zh (by unfold zcR;rw[HUP.o,<-HLK.o,<-HV.o,Bool.true_and]);have HBAD:Hid (zcR d.bufs[1] o tp (k+1)=false->zct f d=83):=zh (fun hu=>zpx (by
    unfold zcq;rw[List.getElem?_eq_getElem hbb,Option.getD_some,HNN.o,HOO.o,Int.toNat_natCast,Int.toNat_natCast,HTP.o,if_pos (zh9 hu (by omega))]))
   have r1:=J1.o.row 1 _ rfl;have r3:=J1.o.row 3 _ rfl;have t1:wr.cell? ⟨bb,bo+1,none⟩=some (.slice yq d.bufs[1].size yc):=zaa HBR.o HYC.o;have hok:(o:Int)+(k:Int)<=9223372036854775807:=by omega
   go_wp2_with fail
   go_quiet (with_reducible exact Calls.quiet_of (N1.o _))
   have J2q:=zh (show BoxN (wr.drewN nq) (w.heap.size+1+1) 69 [.int .i64 0,.slice none 0 0,.int .i64 0] from J2.o);cases qv:decide (v<lk) with
   | true=>
    have qv':v<lk:=by simpa using qv
    have HR:=zh (HBAD.o (by rw[HST.o];simp;omega));clear qv;go_wp2_with fail;refine(zar 83 _ _).mono ?_;rintro e W4 ⟨d4,pv,at4,rfl,hwv,hb4⟩;have HB4:=zh ((zab HBR.o nq).trans (hb4.mono (zab HBR.o nq).size));have BB4:=zh (J2q.o.below hb4 J2q.o.lt);have HWV:=zh hwv;obtain⟨pq,pc,rfl,-⟩:=hwv;clear hb4;obtain⟨q0,q1,q2⟩:=Fld.rr3 BB4.o.row;obtain⟨z0,z1,z2⟩:=ff3 BB4.o;have hl3:=BB4.o.lt;go_wp2_with fail;rw[HR.o];exact zal (i:=4) rfl (zak rfl BB4.o _ _ _) HWV.o (zae HB4.o (by omega) _ _ _) rfl
   | false=>
    have qv':¬v<lk:=by simpa using qv
    clear qv;cases qt:decide (tp<v) with
    | true=>
     have qt':tp<v:=by simpa using qt
     have HR:=zh (HBAD.o (by rw[HST.o];simp;omega));clear qt;go_wp2_with fail;refine(zar 83 _ _).mono ?_;rintro e W4 ⟨d4,pv,at4,rfl,hwv,hb4⟩;have HB4:=zh ((zab HBR.o nq).trans (hb4.mono (zab HBR.o nq).size));have BB4:=zh (J2q.o.below hb4 J2q.o.lt);have HWV:=zh hwv;obtain⟨pq,pc,rfl,-⟩:=hwv;clear hb4;obtain⟨q0,q1,q2⟩:=Fld.rr3 BB4.o.row;obtain⟨z0,z1,z2⟩:=ff3 BB4.o;have hl3:=BB4.o.lt;go_wp2_with fail;rw[HR.o];exact zal (i:=4) rfl (zak rfl BB4.o _ _ _) HWV.o (zae HB4.o (by omega) _ _ _) rfl
    | false=>
     have qt':¬tp<v:=by simpa using qt
     clear qt;go_wp2_with fail;exact⟨⟨k+1,by omega,by go_num,by rw[HV.o];rfl,zh (by rw[HST.o];simp;omega),zh ⟨q+nq,by rw[HQ.o,World.drewN_drewN]⟩⟩,by simp only[intOf];omega⟩
  ·obtain rfl:k=n+1:=by omega
   have r00:=J0.o.row 2 _ rfl;have HO1:Hid (zcq f d=0):=zh (by
    unfold zcq;rw[List.getElem?_eq_getElem hbb,Option.getD_some,HNN.o,HOO.o,Int.toNat_natCast,Int.toNat_natCast,HTP.o,if_neg (by rw[HUP.o];exact fun q=>by cases q)])
   by_cases h12:f.k=12
   ·have q12:(f.k != 12)=false:=by rw[h12];rfl
    have H12:=zh h12;clear h12;have HUP':=zh (HUP.o);clear hlt HUP HLK;have rr0:=J1.o.row 0 _ rfl;go_wp2_with fail;clear rr0 r00 q12;have HX:=zh (show zc8 (zhj f d) 0=0 from rfl)
    go_loopw [59] (fun i wx=>∃k:Nat,k<=n/\i=.int .i64 k/\Hid (zc8 (zhj f d) k=0)/\Hid (Below wr.heap.size wr wx)) (fun i _=>n-(intOf i).toNat)
    case atStart=>exact⟨0,by omega,rfl,HX,zh (Below.refl _ _)⟩
    case round=>
     obtain⟨k,hk',rfl,HER,HB⟩:=hrel;have K0:=zh (J0.o.below HB.o J0.o.lt);have K1:=zh (J1.o.below HB.o J1.o.lt);have K2:=zh (J2.o.below HB.o J2.o.lt);have HBw:=zh (HBR.o.trans (HB.o.mono HBR.o.size));by_cases hlt:k<n
     ·have hd':=HD.o.below HBw.o;rw[HNN.o,HOO.o] at hd';have HN:=zh (fun t=>zfk ((HF.o.below HBw.o).below (zab (Below.refl _ wr) t)) (hd'.below (zab (Below.refl _ wr) t)) (fun _=>by omega) (o+k) (by omega));clear hd';obtain⟨hr0,hr1,hr2⟩:=zjZ HUP'.o k hlt;obtain⟨v0,hv0⟩:=nm (s32 d.bufs[1] (o+k));obtain⟨v1,hv1⟩:=nm (s32 d.bufs[1] (o+(k+1)));rw[<-hv0] at hr0 hr1;rw[<-hv1] at hr1 hr2;rw[HTN.o] at hr2;have HV0:=zh hv0;have HV1:=zh hv1;clear hv0 hv1;obtain⟨A,rfl⟩:∃A:Nat,v0=(A:Int):=⟨v0.toNat,by omega⟩;obtain⟨Z,rfl⟩:∃Z:Nat,v1=(Z:Int):=⟨v1.toNat,by omega⟩;have hAZ:A<=Z:=by omega
      have hZt:Z<=tn:=by omega
      clear hr0 hr1 hr2;obtain⟨p0,p1,p2,p3,p4,p5,p6⟩:=Fld.rr7 K0.o.row;obtain⟨rr0,rr1,rr2,rr3,rr4,rr5⟩:=Fld.rr6 K1.o.row;go_wp2_with fail;refine Mix.region 27 (by kernel_rfl) rfl ?_;refine Mix.phase2 (ft:=24) (ph:=[0,1,2]) (by repeat constructor) (by kernel_rfl) ?_
      repeat (go_big_quiet_step (fail))
      refine wpQuiet_nil ?_;rintro _ ⟨nq,rfl⟩;refine Mix.alone (i:=3) (by kernel_rfl) rfl (by rfl) (fun K hK=>?_)
      go_step
      refine(HN.o (1+nq)).mono ?_;rintro e W2 ⟨rfl,hb2⟩;refine hK _ _ ?_;have HB2:=zh (HB.o.trans (((zab (Below.refl _ wr) (1+nq)).trans hb2).mono HB.o.size));have HBw2:=zh (HBR.o.trans (HB2.o.mono HBR.o.size));clear hK K hb2 p0 p1 p2 p3 p4 p5 p6 rr0 rr1 rr2 rr3 rr4 rr5 HN;cases hnb:zaF f.k d.bufs (o+k) with
      | true=>
       have HE:Hid (zhj f d k=0):=zh (by unfold zhj;rw[HOO.o,Int.toNat_natCast,if_pos (.inl hnb)]);clear hnb;refine Mix.phase2 (ft:=0) (ph:=[4,5,6,7,8,9,10,11,12,13,14,15,16,17,18,19,20,21,22,23,24,25,26]) (by repeat constructor) (by kernel_rfl) ?_
       repeat (go_big_quiet_step (fail))
       refine wpQuiet_nil ?_;rintro _ ⟨nr,rfl⟩;refine Mix.done (by kernel_rfl) ?_;go_wp2_with fail;exact⟨⟨k+1,by omega,by go_num,zh (zgb HER.o HE.o),zh (HB2.o.trans ((zab (Below.refl _ W2) nr).mono HB2.o.size))⟩,by simp only[intOf];omega⟩
      | false=>
       have HNB:=zh hnb;clear hnb;have N1:Hid (∀t,Calls Tryz.prog 87 #[.slice yq d.bufs[1].size yc,.int .i64 ((o:Int)+(k:Int))] (W2.drewN t) (fun e w'=>e=.returned (.int .i64 (A:Int))/\∃m,w'=(W2.drewN t).drewN m)):=zh (fun t=>by
        rw[HV0.o];exact za2 (HYB.o.below (zab HBw2.o t)) (o+k) (by omega))
       have N2:Hid (∀t,Calls Tryz.prog 87 #[.slice yq d.bufs[1].size yc,.int .i64 ((o:Int)+(k:Int)+1)] (W2.drewN t) (fun e w'=>e=.returned (.int .i64 (Z:Int))/\∃m,w'=(W2.drewN t).drewN m)):=zh (fun t=>by
        rw[HV1.o,show(o:Int)+(k:Int)+1=((o+(k+1):Nat):Int) by omega];exact za2 (HYB.o.below (zab HBw2.o t)) (o+(k+1)) (by omega))
       have r3:=(J1.o.below HB2.o J1.o.lt).row 3 _ rfl;have t1:W2.cell? ⟨bb,bo+1,none⟩=some (.slice yq d.bufs[1].size yc):=zaa HBw2.o HYC.o;have t2:W2.cell? ⟨bb,bo+2,none⟩=some (.slice zq tn zc):=zaa HBw2.o HC0.o;have hok:(o:Int)+(k:Int)+1<=9223372036854775807:=by omega
       refine Mix.phase2 (ft:=3) (ph:=[4,5,6,7,8,9,10,11,12,13,14,15,16,17,18,19,20,21,22,23]) (by repeat constructor) (by kernel_rfl) ?_
       repeat (go_big_quiet_step (first|(with_reducible exact Calls.quiet_of (N1.o _))|(with_reducible exact Calls.quiet_of (N2.o _))))
       refine wpQuiet_nil ?_;rintro _ ⟨nr,rfl⟩;refine Mix.alone (i:=24) (by kernel_rfl) rfl (by rfl) (fun K hK=>?_)
       go_step
       obtain⟨pz,hpz⟩:=nm ((if zc=A then zq else Option.map (fun x=>x.add A) zq));rw[<-hpz];have hp:0<(d.bufs[2].extract A Z).size->∃b o,pz=some ⟨b,o,none⟩/\ByIn (W2.drewN nr) b o (d.bufs[2].extract A Z):=fun h0=>by
        have hts:=HTS.o;rw[ziv _ _ _ (by omega)] at h0;have hzb:=HZB.o;rw[hts] at hzb;obtain⟨b,o',e,hi⟩:=zpw hzb (by omega);rw[hpz,if_neg (by omega),e];exact⟨b,o'+A,by simp only[Option.map_some,Addr.add];split <;> simp_all,((hi.below HBw2.o).below (zab (Below.refl _ W2) nr)).cut A Z (by omega)⟩
       have hV:=zk3 hp (N:=Z-A) (cap:=zc-A) (by rw[ziv _ _ _ (by have:=HTS.o;omega)]) (by omega) (by omega) (Utf8Tabs_below (Utf8Tabs_below HT.o HBw2.o) (zab (Below.refl _ W2) nr));clear hp hpz;refine hV.mono ?_;rintro e W3 ⟨rfl,hb3⟩;refine hK _ _ ?_;have HB3:=zh (HB2.o.trans (((zab (Below.refl _ W2) nr).trans hb3).mono HB2.o.size));have HBw3:=zh (HBR.o.trans (HB3.o.mono HBR.o.size));clear hK K hb3 hV r3 t1 t2 N1 N2;have HE:Hid (zhj f d k=if Lib.validD (d.bufs[2].extract A Z).data.toList=true then 0 else 84):=zh (by
        unfold zhj;rw[List.getElem?_eq_getElem hbb,List.getElem?_eq_getElem hk,Option.getD_some,Option.getD_some,HOO.o,Int.toNat_natCast,<-HV0.o,<-HV1.o,HNB.o,Int.toNat_natCast,Int.toNat_natCast];simp only[Bool.false_eq_true,false_or])
       cases hub:Lib.validD (d.bufs[2].extract A Z).data.toList with
       | true=>
        rw[hub] at HE;clear hub;refine Mix.phase2 (ft:=0) (ph:=[25,26]) (by repeat constructor) (by kernel_rfl) ?_
        repeat (go_big_quiet_step (fail))
        refine wpQuiet_nil ?_;rintro _ ⟨ns,rfl⟩;refine Mix.done (by kernel_rfl) ?_;go_wp2_with fail;exact⟨⟨k+1,by omega,by go_num,zh (zgb HER.o HE.o),zh (HB3.o.trans ((zab (Below.refl _ W3) ns).mono HB3.o.size))⟩,by simp only[intOf];omega⟩
       | false=>
        rw[hub] at HE;clear hub;have HR:Hid (zct f d=84):=zh (by unfold zct;rw[HO1.o,if_neg (by omega),if_pos H12.o,HNN.o,Int.toNat_natCast,zhi HER.o (by rw[HE.o];decide) hlt,HE.o];rfl);refine Mix.phase2 (ft:=0) (ph:=[25,26]) (by repeat constructor) (by kernel_rfl) ?_
        repeat (go_big_quiet_step (fail))
        refine wpQuiet_nil ?_;rintro _ ⟨ns,rfl⟩;refine Mix.done (by kernel_rfl) ?_;go_wp2_with fail;refine(zar 84 _ _).mono ?_;rintro e W4 ⟨d4,pv,at4,rfl,hwv,hb4⟩;have h3:=HBw3.o.trans ((zab (Below.refl _ W3) ns).mono HBw3.o.size);have HB4:=zh (h3.trans (hb4.mono h3.size));have k3:=HB3.o.trans ((zab (Below.refl _ W3) ns).mono HB3.o.size);have j3:=J2.o.below k3 J2.o.lt;have BB4:=zh (j3.below hb4 j3.lt);have HWV:=zh hwv;obtain⟨pq,pc,rfl,-⟩:=hwv;clear hb4 h3 k3 j3;obtain⟨q0,q1,q2⟩:=Fld.rr3 BB4.o.row;obtain⟨z0,z1,z2⟩:=ff3 BB4.o;have hl3:=BB4.o.lt;go_wp2_with fail;rw[HR.o];exact zal (i:=4) rfl (zak rfl BB4.o _ _ _) HWV.o (zae HB4.o (by omega) _ _ _) rfl
     ·obtain rfl:k=n:=by omega
      obtain⟨q0,q1,q2⟩:=Fld.rr3 K2.o.row;obtain⟨z0,z1,z2⟩:=ff3 K2.o;have hl3:=K2.o.lt;have HR:Hid (zct f d=0):=zh (by unfold zct;rw[HO1.o,if_neg (by omega),if_pos H12.o,HNN.o,Int.toNat_natCast,HER.o]);go_wp2_with fail;rw[HR.o];exact zal (i:=4) rfl (zak rfl K2.o _ _ _) zcE (zae HBw.o (by omega) _ _ _) rfl
   ·obtain⟨q0,q1,q2⟩:=Fld.rr3 J2.o.row;obtain⟨z0,z1,z2⟩:=ff3 J2.o;have hl3:=J2.o.lt;have q12:(f.k != 12)=true:=by simpa using h12
    have HR:Hid (zct f d=0):=zh (by unfold zct;rw[HO1.o,if_neg (by omega),if_neg h12]);clear h12;go_wp2_with fail;rw[HR.o];exact zal (i:=4) rfl (zak rfl J2.o _ _ _) zcE (zae HBR.o (by omega) _ _ _) rfl
structure Fit (f:Fd)(d:Dt)(n o:Nat):Prop where
 len:d.len=n
 off:d.off=o
 few:n+o<=4096
 may:zdh f=true
 nb:(d.bufs.length:Int)=zcY f.k.toNat
 nk:d.kids.length=zbY f
 nd:(d.dict.length:Int)=if f.k=19 then 1 else 0
 big:∀j (hj:j<d.bufs.length),d.bufs[j].size<=65536
 small:∀j (hj:j<d.bufs.length),zaB f j (n+o) d.bufs[j].size<=(d.bufs[j].size:Int)
 kid:∀j (hj:j<d.kids.length),zey f (n+o) d.kids[j]=false
theorem zok {f:Fd}{e:Nat}{l:List ByteArray}(h:zex f e 0 l=false)(j:Nat)(hj:j<l.length):zaB f j e l[j].size<=(l[j].size:Int):=by
 cases q:decide ((l[j].size:Int)<zaB f (0+j) e l[j].size) with
 | true=>rw[zfV hj q] at h;cases h
 | false=>rw[Nat.zero_add] at q;simpa using q
theorem Fit.of {f:Fd}{d:Dt}(h:zaP f d=0):∃n o,Fit f d n o:=by
 unfold zaP at h;split at h
 ·omega
 rename_i h1
 split at h
 ·omega
 rename_i h2
 split at h
 ·omega
 rename_i h3
 split at h
 ·omega
 rename_i h4
 split at h
 ·omega
 rename_i h5
 split at h
 ·omega
 rename_i h6
 have hm:zdh f=true:=by
  cases q:zdh f with
  | true=>rfl
  | false=>unfold zbz at h1;rw[if_pos q] at h1;simp at h1
 have hs:zbz f=(zcY f.k.toNat,(zbY f:Int),if f.k=19 then 1 else 0):=by unfold zbz;rw[if_neg (by rw[hm];decide)]
 rw[hs] at h1;simp only at h1;have he:(d.off+d.len).toNat=d.len.toNat+d.off.toNat:=by omega
 rw[he] at h5 h6;refine⟨d.len.toNat,d.off.toNat,by omega,by omega,by omega,hm,by omega,by omega,by omega,?_,zok (by simpa using h5),?_⟩
 ·intro j hj;have h4:zjw d.bufs=false:=by simpa using h4
  unfold zjw at h4;have:=List.any_eq_false.1 h4 d.bufs[j] (List.getElem_mem hj);simpa using this
 ·intro j hj;have:=List.any_eq_false.1 (by simpa using h6) d.kids[j] (List.getElem_mem hj);simpa using this
def buf (d:Dt)(k:Nat):ByteArray:=(d.bufs[k]?).getD ByteArray.empty
def chE (d:Dt)(i:Nat):Int:=
 if(d.kids.length:Int)<=zaq (buf d 0) (d.off.toNat+i) then 85
 else if s32 (buf d 1) (d.off.toNat+i)<0\/((d.kids[(zaq (buf d 0) (d.off.toNat+i)).toNat]?).map Dt.len).getD 0<=s32 (buf d 1) (d.off.toNat+i) then 83 else 0
def dcE (f:Fd)(d:Dt)(i:Nat):Int:=if zaF f.k d.bufs (d.off.toNat+i)=true then 0 else if zcG f d (buf d 1) (d.off.toNat+i)<0 then 86 else 0
def zaH (f:Fd)(d:Dt):Int:=
 if f.k=12\/f.k=13\/f.k=15 then zct f d else if f.k=18 then zc8 (chE d) d.len.toNat else if f.k=19 then zc8 (dcE f d) d.len.toNat else 0
theorem zpy {f:Fd}{d:Dt}(h:f.k=15):zct f d=zcq f d:=by
 unfold zct;rw[if_neg (show ¬f.k=12 by omega)];split <;> omega
theorem zgc {f:Fd}{d:Dt}(h:f.k=12\/f.k=13\/f.k=15):zaH f d=zct f d:=by unfold zaH;rw[if_pos h]
theorem zjx {f:Fd}{d:Dt}(h:f.k=18):zaH f d=zc8 (chE d) d.len.toNat:=by unfold zaH;rw[if_neg (by omega),if_pos h]
theorem zjy {f:Fd}{d:Dt}(h:f.k=19):zaH f d=zc8 (dcE f d) d.len.toNat:=by unfold zaH;rw[if_neg (by omega),if_neg (by omega),if_pos h]
theorem zqA {f:Fd}{d:Dt}(h:¬(f.k=12\/f.k=13\/f.k=15)/\f.k≠18/\f.k≠19):zaH f d=0:=by unfold zaH;rw[if_neg h.1,if_neg h.2.1,if_neg h.2.2]
theorem zaW {f:Fd}(h:zaU f=true)(hk:f.k=15\/f.k=16\/f.k=19\/f.k=20):f.kids.length=1:=by
 unfold zaU at h;simp only[Bool.and_eq_true,decide_eq_true_eq] at h;have h1:=h.2.2.2.1;have h2:=h.2.2.2.2;unfold zbE at h1;unfold zbH at h2;rcases hk with hk|hk|hk|hk <;> simp[hk] at h1 h2 <;> omega
theorem Fit.text {f:Fd}{d:Dt}{n o:Nat}(F:Fit f d n o)(h:f.k=12\/f.k=13):d.bufs.length=3/\∀h1:1<d.bufs.length,4*(o+n+1)<=d.bufs[1].size:=by
 have hb:=F.nb;have hk:f.k.toNat=12\/f.k.toNat=13:=by omega
 unfold zcY at hb;rw[if_neg (by omega),if_pos hk] at hb;refine⟨by omega,fun h1=>?_⟩;have:=F.small 1 h1;unfold zaB at this;rw[if_neg (by omega),if_neg (by omega),if_neg (by omega),if_pos (by omega)] at this;omega
theorem zde {f:Fd}(hm:zdh f=true)(h:f.k≠19)(h2:f.k≠20):zbY f=f.kids.length:=by
 unfold zbY;rw[if_neg (by rw[hm];simp[h]),if_neg h2]
theorem Fit.list {f:Fd}{d:Dt}{n o:Nat}(F:Fit f d n o)(h:f.k=15):d.bufs.length=2/\d.kids.length=f.kids.length/\∀h1:1<d.bufs.length,4*(o+n+1)<=d.bufs[1].size:=by
 have hb:=F.nb;have hk:f.k.toNat=15:=by omega
 unfold zcY at hb;rw[if_neg (by omega),if_neg (by omega),if_neg (by omega)] at hb;refine⟨by omega,by rw[F.nk,zde F.may (by omega) (by omega)],fun h1=>?_⟩;have:=F.small 1 h1;unfold zaB at this;rw[if_neg (by omega),if_neg (by omega),if_neg (by omega),if_pos (by omega)] at this;omega
theorem Fit.choice {f:Fd}{d:Dt}{n o:Nat}(F:Fit f d n o)(h:f.k=18):d.bufs.length=2/\d.kids.length=f.kids.length/\(∀h0:0<d.bufs.length,o+n<=d.bufs[0].size)/\∀h1:1<d.bufs.length,4*(o+n)<=d.bufs[1].size:=by
 have hb:=F.nb;have hk:f.k.toNat=18:=by omega
 unfold zcY at hb;rw[if_neg (by omega),if_neg (by omega),if_neg (by omega)] at hb;refine⟨by omega,by rw[F.nk,zde F.may (by omega) (by omega)],fun h0=>?_,fun h1=>?_⟩
 ·have:=F.small 0 h0;unfold zaB at this;rw[if_pos h] at this;omega
 ·have:=F.small 1 h1;unfold zaB at this;rw[if_pos h] at this;omega
theorem zol {x:Int}(h:3<=x/\x<=10):∃n:Nat,zaK x=n/\1<=n/\n<=8/\zew x=n:=by
 have:x=3\/x=4\/x=5\/x=6\/x=7\/x=8\/x=9\/x=10:=by omega
 rcases this with rfl|rfl|rfl|rfl|rfl|rfl|rfl|rfl
 ·exact⟨1,rfl,by decide,by decide,rfl⟩
 ·exact⟨2,rfl,by decide,by decide,rfl⟩
 ·exact⟨4,rfl,by decide,by decide,rfl⟩
 ·exact⟨8,rfl,by decide,by decide,rfl⟩
 ·exact⟨1,rfl,by decide,by decide,rfl⟩
 ·exact⟨2,rfl,by decide,by decide,rfl⟩
 ·exact⟨4,rfl,by decide,by decide,rfl⟩
 ·exact⟨8,rfl,by decide,by decide,rfl⟩
theorem Fit.dict {f:Fd}{d:Dt}{n o:Nat}(F:Fit f d n o)(h:f.k=19):d.bufs.length=2/\d.dict.length=1/\∃m:Nat,zaK f.ix=m/\1<=m/\m<=8/\∀h1:1<d.bufs.length,(o+n)*m<=d.bufs[1].size:=by
 have hb:=F.nb;have hk:f.k.toNat=19:=by omega
 unfold zcY at hb;rw[if_neg (by omega),if_neg (by omega),if_neg (by omega)] at hb;have hd:=F.nd;rw[if_pos h] at hd;obtain⟨m,hm,h1m,h8m,hsw⟩:=zol (zhc (zaE F.may).1 h);refine⟨by omega,by omega,m,hm,h1m,h8m,fun h1=>?_⟩;have:=F.small 1 h1;unfold zaB at this;rw[if_neg (by omega),if_neg (by omega),if_neg (by omega),if_neg (by omega)] at this;unfold zbK at this;rw[if_neg (by rw[F.may];decide),if_neg (by omega),if_pos h,hsw] at this;rw[<-Int.natCast_mul] at this;rw[Nat.add_comm o n];exact_mod_cast this
theorem Fit.valid {f:Fd}{d:Dt}{n o:Nat}(F:Fit f d n o):zbX f.k=true->0<d.bufs.length:=
 zh8 (by unfold zbz;rw[if_neg (by rw[F.may];decide)];exact F.nb)
theorem zk4 {w:World}{f:Fd}{d:Dt}{fs ds:List Value}{n o:Nat}(hf:FdAt w f fs)(hd:DAt (fun _=>True) w d ds)(F:Fit f d n o)(hT:Lib.Utf8Tabs 1 2 w)(hib:∀e ∈ d.dict,zah e.len)(hk:f.k=12) :
  Calls Tryz.prog 66 #[.agg fs.toArray,.agg ds.toArray] w (zcP w (zaH f d)):=by
 obtain⟨fp,fc,rfl,-⟩:=hf.shape;obtain⟨bp,bc,kp,kc,dp,dc,rfl,hbu,hki,hdi⟩:=hd.shape;obtain⟨-,hb1,hb2⟩:=zam hbu;obtain⟨-,hk1,hk2⟩:=zam hki;simp only[List.length_map] at hb1 hk1;unfold maxLen at hb2 hk2;have HF:=zh hf;have HD:=zh hd;have HT:=zh hT;have HIB:=zh hib;have HBU:=zh hbu;have HKI:=zh hki;have HFIT:=zh F;have few:=F.few;rw[F.len,F.off];have HNN:=zh F.len;have HOO:=zh F.off;clear hf hd hbu hki hdi hT hib F;obtain⟨W,hW,x0,x1,x2,hBW⟩:=zbG w 26 (f7 f fp fc) 46 [.int .i64 n,.int .i64 o,.int .i64 d.nul,.slice bp d.bufs.length bc,.slice kp d.kids.length kc,.slice dp d.dict.length dc] 69 [.int .i64 0,.slice none 0 0,.int .i64 0];have X0:=zh x0;have X1:=zh x1;have X2:=zh x2;have HBW:=zh hBW;have HW:=zh hW;clear x0 x1 x2 hBW hW;have HK:=zh hk;have q12:(f.k == 12)=true:=by simp;omega
 have q13:(f.k == 13)=false:=by simp;omega
 have q15:(f.k == 15)=false:=by simp;omega
 clear hk;have hd':=HD.o.below HBW.o;rw[HNN.o,HOO.o] at hd';have HD2:=zh hd';clear hd'
 go_in
 go_wp2_with fail;rw[<-HW.o];have ft:=HFIT.o.text (by have:=HK.o;omega);refine(zib (HF.o.below HBW.o) HD2.o n o HNN.o HOO.o (by have:=HK.o;omega) (by omega) (by omega) (ft.2 (by omega)) (Utf8Tabs_below HT.o HBW.o)).mono ?_;rintro e W4 ⟨d4,pv,at4,rfl,hwv,hb4⟩;have BB4:=zh (X2.o.below hb4 X2.o.lt);have HB4:=zh (HBW.o.trans (hb4.mono HBW.o.size));have HWV:=zh hwv;obtain⟨pq,pc,rfl,-⟩:=hwv;clear hb4;obtain⟨q0,q1,q2⟩:=Fld.rr3 BB4.o.row;obtain⟨z0,z1,z2⟩:=ff3 BB4.o;have hl3:=BB4.o.lt;go_wp2_with fail;have HR:Hid (zaH f d=zct f d):=zh (zgc (by have:=HK.o;omega));rw[HR.o];exact zal (i:=4) rfl (zak rfl BB4.o _ _ _) HWV.o (zae HB4.o (by omega) _ _ _) rfl
theorem zk5 {w:World}{f:Fd}{d:Dt}{fs ds:List Value}{n o:Nat}(hf:FdAt w f fs)(hd:DAt (fun _=>True) w d ds)(F:Fit f d n o)(hT:Lib.Utf8Tabs 1 2 w)(hib:∀e ∈ d.dict,zah e.len)(hk:f.k=13) :
  Calls Tryz.prog 66 #[.agg fs.toArray,.agg ds.toArray] w (zcP w (zaH f d)):=by
 obtain⟨fp,fc,rfl,-⟩:=hf.shape;obtain⟨bp,bc,kp,kc,dp,dc,rfl,hbu,hki,hdi⟩:=hd.shape;obtain⟨-,hb1,hb2⟩:=zam hbu;obtain⟨-,hk1,hk2⟩:=zam hki;simp only[List.length_map] at hb1 hk1;unfold maxLen at hb2 hk2;have HF:=zh hf;have HD:=zh hd;have HT:=zh hT;have HIB:=zh hib;have HBU:=zh hbu;have HKI:=zh hki;have HFIT:=zh F;have few:=F.few;rw[F.len,F.off];have HNN:=zh F.len;have HOO:=zh F.off;clear hf hd hbu hki hdi hT hib F;obtain⟨W,hW,x0,x1,x2,hBW⟩:=zbG w 26 (f7 f fp fc) 46 [.int .i64 n,.int .i64 o,.int .i64 d.nul,.slice bp d.bufs.length bc,.slice kp d.kids.length kc,.slice dp d.dict.length dc] 69 [.int .i64 0,.slice none 0 0,.int .i64 0];have X0:=zh x0;have X1:=zh x1;have X2:=zh x2;have HBW:=zh hBW;have HW:=zh hW;clear x0 x1 x2 hBW hW;have HK:=zh hk;have q12:(f.k == 12)=false:=by simp;omega
 have q13:(f.k == 13)=true:=by simp;omega
 have q15:(f.k == 15)=false:=by simp;omega
 clear hk;have hd':=HD.o.below HBW.o;rw[HNN.o,HOO.o] at hd';have HD2:=zh hd';clear hd'
 go_in
 go_wp2_with fail;rw[<-HW.o];have ft:=HFIT.o.text (by have:=HK.o;omega);refine(zib (HF.o.below HBW.o) HD2.o n o HNN.o HOO.o (by have:=HK.o;omega) (by omega) (by omega) (ft.2 (by omega)) (Utf8Tabs_below HT.o HBW.o)).mono ?_;rintro e W4 ⟨d4,pv,at4,rfl,hwv,hb4⟩;have BB4:=zh (X2.o.below hb4 X2.o.lt);have HB4:=zh (HBW.o.trans (hb4.mono HBW.o.size));have HWV:=zh hwv;obtain⟨pq,pc,rfl,-⟩:=hwv;clear hb4;obtain⟨q0,q1,q2⟩:=Fld.rr3 BB4.o.row;obtain⟨z0,z1,z2⟩:=ff3 BB4.o;have hl3:=BB4.o.lt;go_wp2_with fail;have HR:Hid (zaH f d=zct f d):=zh (zgc (by have:=HK.o;omega));rw[HR.o];exact zal (i:=4) rfl (zak rfl BB4.o _ _ _) HWV.o (zae HB4.o (by omega) _ _ _) rfl
theorem zk6 {w:World}{f:Fd}{d:Dt}{fs ds:List Value}{n o:Nat}(hf:FdAt w f fs)(hd:DAt (fun _=>True) w d ds)(F:Fit f d n o)(hT:Lib.Utf8Tabs 1 2 w)(hib:∀e ∈ d.dict,zah e.len)(hk:f.k=15)(h1:0<f.kids.length) :
  Calls Tryz.prog 66 #[.agg fs.toArray,.agg ds.toArray] w (zcP w (zaH f d)):=by
 obtain⟨fp,fc,rfl,-⟩:=hf.shape;obtain⟨bp,bc,kp,kc,dp,dc,rfl,hbu,hki,hdi⟩:=hd.shape;obtain⟨-,hb1,hb2⟩:=zam hbu;obtain⟨-,hk1,hk2⟩:=zam hki;simp only[List.length_map] at hb1 hk1;unfold maxLen at hb2 hk2;have HF:=zh hf;have HD:=zh hd;have HT:=zh hT;have HIB:=zh hib;have HBU:=zh hbu;have HKI:=zh hki;have HFIT:=zh F;have few:=F.few;rw[F.len,F.off];have HNN:=zh F.len;have HOO:=zh F.off;clear hf hd hbu hki hdi hT hib F;obtain⟨W,hW,x0,x1,x2,hBW⟩:=zbG w 26 (f7 f fp fc) 46 [.int .i64 n,.int .i64 o,.int .i64 d.nul,.slice bp d.bufs.length bc,.slice kp d.kids.length kc,.slice dp d.dict.length dc] 69 [.int .i64 0,.slice none 0 0,.int .i64 0];have X0:=zh x0;have X1:=zh x1;have X2:=zh x2;have HBW:=zh hBW;have HW:=zh hW;clear x0 x1 x2 hBW hW;have HK:=zh hk;have q12:(f.k == 12)=false:=by simp;omega
 have q13:(f.k == 13)=false:=by simp;omega
 have q15:(f.k == 15)=true:=by simp;omega
 clear hk;have hd':=HD.o.below HBW.o;rw[HNN.o,HOO.o] at hd';have HD2:=zh hd';clear hd'
 go_in
 go_wp2_with fail;rw[<-HW.o];have ft:=HFIT.o.list HK.o;refine(zkX (HF.o.below HBW.o) HD2.o n o HNN.o HOO.o HK.o (by omega) (by omega) (ft.2.2 (by omega))).mono ?_;rw[<-zpy HK.o];rintro e W4 ⟨d4,pv,at4,rfl,hwv,hb4⟩;have BB4:=zh (X2.o.below hb4 X2.o.lt);have HB4:=zh (HBW.o.trans (hb4.mono HBW.o.size));have HWV:=zh hwv;obtain⟨pq,pc,rfl,-⟩:=hwv;clear hb4;obtain⟨q0,q1,q2⟩:=Fld.rr3 BB4.o.row;obtain⟨z0,z1,z2⟩:=ff3 BB4.o;have hl3:=BB4.o.lt;go_wp2_with fail;have HR:Hid (zaH f d=zct f d):=zh (zgc (by have:=HK.o;omega));rw[HR.o];exact zal (i:=4) rfl (zak rfl BB4.o _ _ _) HWV.o (zae HB4.o (by omega) _ _ _) rfl
theorem zmd {w:World}{f:Fd}{d:Dt}{fs ds:List Value}{n o:Nat}(hf:FdAt w f fs)(hd:DAt (fun _=>True) w d ds)(F:Fit f d n o)(hT:Lib.Utf8Tabs 1 2 w)(hib:∀e ∈ d.dict,zah e.len)(hk:¬(f.k=12\/f.k=13\/f.k=15)/\f.k≠18/\f.k≠19) :
  Calls Tryz.prog 66 #[.agg fs.toArray,.agg ds.toArray] w (zcP w (zaH f d)):=by
 obtain⟨fp,fc,rfl,-⟩:=hf.shape;obtain⟨bp,bc,kp,kc,dp,dc,rfl,hbu,hki,hdi⟩:=hd.shape;obtain⟨-,hb1,hb2⟩:=zam hbu;obtain⟨-,hk1,hk2⟩:=zam hki;simp only[List.length_map] at hb1 hk1;unfold maxLen at hb2 hk2;have HF:=zh hf;have HD:=zh hd;have HT:=zh hT;have HIB:=zh hib;have HBU:=zh hbu;have HKI:=zh hki;have HFIT:=zh F;have few:=F.few;rw[F.len,F.off];have HNN:=zh F.len;have HOO:=zh F.off;clear hf hd hbu hki hdi hT hib F;obtain⟨W,hW,x0,x1,x2,hBW⟩:=zbG w 26 (f7 f fp fc) 46 [.int .i64 n,.int .i64 o,.int .i64 d.nul,.slice bp d.bufs.length bc,.slice kp d.kids.length kc,.slice dp d.dict.length dc] 69 [.int .i64 0,.slice none 0 0,.int .i64 0];have X0:=zh x0;have X1:=zh x1;have X2:=zh x2;have HBW:=zh hBW;have HW:=zh hW;clear x0 x1 x2 hBW hW;have HK:=zh hk;have q12:(f.k == 12)=false:=by simp;omega
 have q13:(f.k == 13)=false:=by simp;omega
 have q15:(f.k == 15)=false:=by simp;omega
 have q18:(f.k == 18)=false:=by simp;omega
 have q19:(f.k == 19)=false:=by simp;omega
 clear hk;have HR:Hid (zaH f d=0):=zh (zqA HK.o)
 go_in
 go_upto_region 26 with fail
 rw[<-HW.o];obtain⟨q0,q1,q2⟩:=Fld.rr3 X2.o.row;obtain⟨z0,z1,z2⟩:=ff3 X2.o;have hl3:=X2.o.lt;go_wp2_with fail;rw[HR.o];exact zal (i:=4) rfl (zak rfl X2.o _ _ _) zcE (zae HBW.o (by omega) _ _ _) rfl
theorem zk7 {w:World}{f:Fd}{d:Dt}{fs ds:List Value}{n o:Nat}(hf:FdAt w f fs)(hd:DAt (fun _=>True) w d ds)(F:Fit f d n o)(hT:Lib.Utf8Tabs 1 2 w)(hib:∀e ∈ d.dict,zah e.len)(hk:f.k=18) :
  Calls Tryz.prog 66 #[.agg fs.toArray,.agg ds.toArray] w (zcP w (zaH f d)):=by
 obtain⟨fp,fc,rfl,-⟩:=hf.shape;obtain⟨bp,bc,kp,kc,dp,dc,rfl,hbu,hki,hdi⟩:=hd.shape;obtain⟨-,hb1,hb2⟩:=zam hbu;obtain⟨-,hk1,hk2⟩:=zam hki;simp only[List.length_map] at hb1 hk1;unfold maxLen at hb2 hk2;have HF:=zh hf;have HD:=zh hd;have HT:=zh hT;have HIB:=zh hib;have HBU:=zh hbu;have HKI:=zh hki;have HFIT:=zh F;have few:=F.few;rw[F.len,F.off];have HNN:=zh F.len;have HOO:=zh F.off;clear hf hd hbu hki hdi hT hib F;obtain⟨W,hW,x0,x1,x2,hBW⟩:=zbG w 26 (f7 f fp fc) 46 [.int .i64 n,.int .i64 o,.int .i64 d.nul,.slice bp d.bufs.length bc,.slice kp d.kids.length kc,.slice dp d.dict.length dc] 69 [.int .i64 0,.slice none 0 0,.int .i64 0];have X0:=zh x0;have X1:=zh x1;have X2:=zh x2;have HBW:=zh hBW;have HW:=zh hW;clear x0 x1 x2 hBW hW;have HK:=zh hk;have q12:(f.k == 12)=false:=by simp;omega
 have q13:(f.k == 13)=false:=by simp;omega
 have q15:(f.k == 15)=false:=by simp;omega
 have q18:(f.k == 18)=true:=by simp;omega
 clear hk;have hl0:=X0.o.lt;have hl1:=X1.o.lt
 go_in
 go_wp2_with fail;rw[<-HW.o]
 go_loopw [25] (fun i wx=>∃k:Nat,k<=n/\i=.int .i64 k/\Hid (zc8 (chE d) k=0)/\Hid (Below W.heap.size W wx)) (fun i _=>n-(intOf i).toNat)
 case atStart=>exact⟨0,by omega,rfl,zh rfl,zh (Below.refl _ _)⟩
 case round=>
  obtain⟨k,hk',rfl,HER,HB⟩:=hrel;have K0:=zh (X0.o.below HB.o X0.o.lt);have K1:=zh (X1.o.below HB.o X1.o.lt);have K2:=zh (X2.o.below HB.o X2.o.lt);have HBw:=zh (HBW.o.trans (HB.o.mono HBW.o.size));by_cases hlt:k<n
  ·have HBAD:Hid (chE d k≠0->zaH f d=chE d k):=zh (fun he=>by
    rw[zjx HK.o,HNN.o,Int.toNat_natCast,zhi HER.o he hlt])
   have HR1:∀h0:0<d.bufs.length,zaq (buf d 0) (d.off.toNat+k)=zaq d.bufs[0] (o+k):=fun h0=>by unfold buf;rw[List.getElem?_eq_getElem h0,Option.getD_some,HOO.o,Int.toNat_natCast]
   have HR2:∀h0:1<d.bufs.length,s32 (buf d 1) (d.off.toNat+k)=s32 d.bufs[1] (o+k):=fun h0=>by unfold buf;rw[List.getElem?_eq_getElem h0,Option.getD_some,HOO.o,Int.toNat_natCast]
   obtain⟨hl2,-,hs0,hs1⟩:=HFIT.o.choice HK.o;have hl3:1<d.bufs.length:=by omega
   clear hl2;have HR1:=zh (HR1 (by omega));have HR2:=zh (HR2 (by omega));obtain⟨bb,bo,yq,yc,ebp,-,hbc,hby⟩:=zbI HBU.o 0 (by omega);obtain⟨⟨-,hy1,hy2⟩,hy3⟩:=zaZ hby;obtain⟨yb,yo,eyq,-,hyc⟩:=hy3 (o+k) (by have:=hs0 (by omega);omega);obtain⟨bb',bo',zq,zc,ebp',-,hzc,hbz⟩:=zbI HBU.o 1 (by omega);rw[ebp] at ebp';cases ebp';subst ebp;subst eyq;unfold maxLen at hy2;have t0:wr.cell? ⟨bb,bo+0,none⟩=some (.slice (some ⟨yb,yo,none⟩) d.bufs[0].size yc):=zaa HBw.o hbc;have t1:wr.cell? ⟨bb,bo+1,none⟩=some (.slice zq d.bufs[1].size zc):=zaa HBw.o hzc;have t2:wr.cell? ⟨yb,yo+(o+k),none⟩=some (.int .u8 (zaq d.bufs[0] (o+k))):=zaa HBw.o hyc;rw[Nat.add_zero] at t0;have HN:=zh (za2 (hbz.below HBw.o) (o+k) (by have:=hs1 (by omega);omega));have hcb:=za1 d.bufs[0] (o+k);obtain⟨c,hc⟩:∃c:Nat,zaq d.bufs[0] (o+k)=(c:Int):=⟨(zaq d.bufs[0] (o+k)).toNat,by omega⟩;rw[hc] at t2 hcb HR1;obtain⟨z,hz⟩:=nm (d.bufs[0].size);rw[<-hz] at t0 hy1;have hok:(o:Int)+(k:Int)<(z:Int):=by have:=hs0 (by omega);omega
   have hokn:o+k<z:=by omega
   clear hz hc hs0 hs1 hby hbz hbc hzc hyc hy3;have rr1:=K1.o.row 1 _ rfl;have rr3:=K1.o.row 3 _ rfl;have rr4:=K1.o.row 4 _ rfl;by_cases hck:c<d.kids.length
   ·have hckz:¬((d.kids.length:Int)<=(c:Int)):=by omega
    obtain⟨kb,ko,kbp,kbc,kkp,kkc,kdp,kdc,ekp,-,hkc,-⟩:=zci HKI.o c hck;subst ekp;have t3:wr.cell? ⟨kb,ko+c*6,none⟩=some (.int .i64 d.kids[c].len):=zaa HBw.o hkc;obtain⟨kl,hkl⟩:=nm (d.kids[c].len);rw[<-hkl] at t3;have HKL:=zh hkl;clear hkl hkc;obtain⟨v,hv⟩:=nm (s32 d.bufs[1] (o+k));rw[<-hv] at HN HR2;clear hv;have HST:Hid (chE d k=if v<0\/kl<=v then 83 else 0):=zh (by
     unfold chE;rw[HR1.o,HR2.o,if_neg hckz,Int.toNat_natCast,List.getElem?_eq_getElem hck,HKL.o];rfl)
    go_wp2_with fail;refine HN.o.mono ?_;rintro e W3 ⟨rfl,nq,rfl⟩;have HBq:=zh (zab HBw.o nq);have HBr:=zh (zab HB.o nq);have K2q:=zh (show BoxN (wr.drewN nq) (w.heap.size+1+1) 69 [.int .i64 0,.slice none 0 0,.int .i64 0] from K2.o);by_cases hv0:v<0
    ·have HR:Hid (zaH f d=83):=zh (by rw[HBAD.o (by rw[HST.o,if_pos (.inl hv0)];decide),HST.o,if_pos (.inl hv0)]);have qv0:decide (v<0)=true:=decide_eq_true hv0;go_wp2_with fail;refine(zar 83 _ _).mono ?_;rintro e W4 ⟨d4,pv,at4,rfl,hwv,hb4⟩;have HB4:=zh (HBq.o.trans (hb4.mono HBq.o.size));have BB4:=zh (K2q.o.below hb4 K2q.o.lt);have HWV:=zh hwv;obtain⟨pq,pc,rfl,-⟩:=hwv;clear hb4;obtain⟨q0,q1,q2⟩:=Fld.rr3 BB4.o.row;obtain⟨z0,z1,z2⟩:=ff3 BB4.o;have hl3:=BB4.o.lt;go_wp2_with fail;rw[HR.o];exact zal (i:=4) rfl (zak rfl BB4.o _ _ _) HWV.o (zae HB4.o (by omega) _ _ _) rfl
    ·have qv0:decide (v<0)=false:=decide_eq_false hv0;by_cases hvk:kl<=v
     ·have HR:Hid (zaH f d=83):=zh (by rw[HBAD.o (by rw[HST.o,if_pos (.inr hvk)];decide),HST.o,if_pos (.inr hvk)]);have qvk:decide (kl<=v)=true:=decide_eq_true hvk;go_wp2_with fail;refine(zar 83 _ _).mono ?_;rintro e W4 ⟨d4,pv,at4,rfl,hwv,hb4⟩;have HB4:=zh (HBq.o.trans (hb4.mono HBq.o.size));have BB4:=zh (K2q.o.below hb4 K2q.o.lt);have HWV:=zh hwv;obtain⟨pq,pc,rfl,-⟩:=hwv;clear hb4;obtain⟨q0,q1,q2⟩:=Fld.rr3 BB4.o.row;obtain⟨z0,z1,z2⟩:=ff3 BB4.o;have hl3:=BB4.o.lt;go_wp2_with fail;rw[HR.o];exact zal (i:=4) rfl (zak rfl BB4.o _ _ _) HWV.o (zae HB4.o (by omega) _ _ _) rfl
     ·have qvk:decide (kl<=v)=false:=decide_eq_false hvk;have HE:Hid (chE d k=0):=zh (by rw[HST.o,if_neg (by omega)]);go_wp2_with fail;exact⟨⟨k+1,by omega,by go_num,zh (zgb HER.o HE.o),HBr⟩,by simp only[intOf];omega⟩
   ·have hckz:(d.kids.length:Int)<=(c:Int):=by omega
    have HST:Hid (chE d k=85):=zh (by
     unfold chE;rw[HR1.o,if_pos hckz])
    have HR:Hid (zaH f d=85):=zh (by rw[HBAD.o (by rw[HST.o];decide),HST.o]);go_wp2_with fail;refine(zar 85 _ _).mono ?_;rintro e W4 ⟨d4,pv,at4,rfl,hwv,hb4⟩;have HB4:=zh (HBw.o.trans (hb4.mono HBw.o.size));have BB4:=zh (K2.o.below hb4 K2.o.lt);have HWV:=zh hwv;obtain⟨pq,pc,rfl,-⟩:=hwv;clear hb4;obtain⟨q0,q1,q2⟩:=Fld.rr3 BB4.o.row;obtain⟨z0,z1,z2⟩:=ff3 BB4.o;have hl3:=BB4.o.lt;go_wp2_with fail;rw[HR.o];exact zal (i:=4) rfl (zak rfl BB4.o _ _ _) HWV.o (zae HB4.o (by omega) _ _ _) rfl
  ·obtain rfl:k=n:=by omega
   obtain⟨q0,q1,q2⟩:=Fld.rr3 K2.o.row;obtain⟨z0,z1,z2⟩:=ff3 K2.o;have hl3:=K2.o.lt;have HR:Hid (zaH f d=0):=zh (by rw[zjx HK.o,HNN.o,Int.toNat_natCast,HER.o]);go_wp2_with fail;rw[HR.o];exact zal (i:=4) rfl (zak rfl K2.o _ _ _) zcE (zae HBw.o (by omega) _ _ _) rfl
theorem zk8 {w:World}{f:Fd}{d:Dt}{fs ds:List Value}{n o:Nat}(hf:FdAt w f fs)(hd:DAt (fun _=>True) w d ds)(F:Fit f d n o)(hT:Lib.Utf8Tabs 1 2 w)(hib:∀e ∈ d.dict,zah e.len)(hk:f.k=19) :
  Calls Tryz.prog 66 #[.agg fs.toArray,.agg ds.toArray] w (zcP w (zaH f d)):=by
 obtain⟨fp,fc,rfl,-⟩:=hf.shape;obtain⟨bp,bc,kp,kc,dp,dc,rfl,hbu,hki,hdi⟩:=hd.shape;obtain⟨-,hb1,hb2⟩:=zam hbu;obtain⟨-,hk1,hk2⟩:=zam hki;simp only[List.length_map] at hb1 hk1;unfold maxLen at hb2 hk2;have HF:=zh hf;have HD:=zh hd;have HT:=zh hT;have HIB:=zh hib;have HBU:=zh hbu;have HKI:=zh hki;have HFIT:=zh F;have few:=F.few;rw[F.len,F.off];have HNN:=zh F.len;have HOO:=zh F.off;clear hf hd hbu hki hdi hT hib F;obtain⟨W,hW,x0,x1,x2,hBW⟩:=zbG w 26 (f7 f fp fc) 46 [.int .i64 n,.int .i64 o,.int .i64 d.nul,.slice bp d.bufs.length bc,.slice kp d.kids.length kc,.slice dp d.dict.length dc] 69 [.int .i64 0,.slice none 0 0,.int .i64 0];have X0:=zh x0;have X1:=zh x1;have X2:=zh x2;have HBW:=zh hBW;have HW:=zh hW;clear x0 x1 x2 hBW hW;have HK:=zh hk;have q12:(f.k == 12)=false:=by simp;omega
 have q13:(f.k == 13)=false:=by simp;omega
 have q15:(f.k == 15)=false:=by simp;omega
 have q18:(f.k == 18)=false:=by simp;omega
 have q19:(f.k == 19)=true:=by simp;omega
 clear hk;have hl0:=X0.o.lt;have hl1:=X1.o.lt
 go_in
 go_wp2_with fail;rw[<-HW.o];clear hl0 hl1
 go_loopw [72] (fun i wx=>∃k:Nat,k<=n/\i=.int .i64 k/\Hid (zc8 (dcE f d) k=0)/\Hid (Below W.heap.size W wx)) (fun i _=>n-(intOf i).toNat)
 case atStart=>exact⟨0,by omega,rfl,zh rfl,zh (Below.refl _ _)⟩
 case round=>
  obtain⟨k,hk',rfl,HER,HB⟩:=hrel;have K0:=zh (X0.o.below HB.o X0.o.lt);have K1:=zh (X1.o.below HB.o X1.o.lt);have K2:=zh (X2.o.below HB.o X2.o.lt);have HBw:=zh (HBW.o.trans (HB.o.mono HBW.o.size));by_cases hlt:k<n
  ·have HBAD:Hid (dcE f d k≠0->zaH f d=dcE f d k):=zh (fun he=>by
    rw[zjy HK.o,HNN.o,Int.toNat_natCast,zhi HER.o he hlt])
   obtain⟨hb2',hd1,m,hm,h1m,h8m,hs1⟩:=HFIT.o.dict HK.o;have hbl:1<d.bufs.length:=by omega
   have hdl:0<d.dict.length:=by omega
   have hsz:(o+k+1)*m<=d.bufs[1].size:=Nat.le_trans (Nat.mul_le_mul_right m (show o+k+1<=o+n by omega)) (hs1 hbl);have hd':=HD.o.below HBw.o;rw[HNN.o,HOO.o] at hd';have HN:=zh (zfk (HF.o.below HBw.o) hd' HFIT.o.valid (o+k) (by omega));have HD2:=zh hd';have HDI:=zh (fun(U:World) (hu:Below wr.heap.size wr U)=>zhf ((HF.o.below HBw.o).below hu) (HD2.o.below hu) (o+k) hdl hbl m hm h1m hsz (HIB.o _ (List.getElem_mem hdl)));have HRB:Hid (zcG f d (buf d 1) (d.off.toNat+k)=zcG f d d.bufs[1] (o+k)):=zh (by unfold buf;rw[List.getElem?_eq_getElem hbl,Option.getD_some,HOO.o,Int.toNat_natCast]);obtain⟨ix,hix⟩:=nm (zcG f d d.bufs[1] (o+k));rw[<-hix] at HDI HRB;clear hb2' hd1 hm h1m h8m hs1 hsz hd' hix hbl hdl;obtain⟨p0,p1,p2,p3,p4,p5,p6⟩:=Fld.rr7 K0.o.row;obtain⟨rr0,rr1,rr2,rr3,rr4,rr5⟩:=Fld.rr6 K1.o.row;have hl1:=K0.o.lt;have hl2:=K1.o.lt;go_wp2_with fail;refine HN.o.mono ?_;rintro e W2 ⟨rfl,hb2⟩;have HU:=zh hb2;have K0b:=zh (K0.o.below hb2 K0.o.lt);have K1b:=zh (K1.o.below hb2 K1.o.lt);have HB2:=zh (HB.o.trans (hb2.mono HB.o.size));clear hb2 p0 p1 p2 p3 p4 p5 p6 rr0 rr1 rr2 rr3 rr4 rr5 hl1 hl2 HN;cases hnb:zaF f.k d.bufs (o+k) with
   | true=>
    have HE:Hid (dcE f d k=0):=zh (by unfold dcE;rw[HOO.o,Int.toNat_natCast,hnb,if_pos rfl]);clear hnb;go_wp2_with fail;exact⟨⟨k+1,by omega,by go_num,zh (zgb HER.o HE.o),HB2⟩,by simp only[intOf];omega⟩
   | false=>
    have HST:Hid (dcE f d k=if ix<0 then 86 else 0):=zh (by unfold dcE;rw[HRB.o,HOO.o,Int.toNat_natCast,hnb,if_neg (by decide)]);clear hnb;obtain⟨p0,p1,p2,p3,p4,p5,p6⟩:=Fld.rr7 K0b.o.row;obtain⟨rr0,rr1,rr2,rr3,rr4,rr5⟩:=Fld.rr6 K1b.o.row;have hl1:=K0b.o.lt;have hl2:=K1b.o.lt;go_wp2_with fail;refine(HDI.o _ HU.o).mono ?_;rintro e W3 ⟨rfl,hb3⟩;have HBq:=zh (HBw.o.trans ((HU.o.trans (hb3.mono HU.o.size)).mono HBw.o.size));have HB3:=zh (HB2.o.trans (hb3.mono HB2.o.size));have K2q:=zh (K2.o.below (HU.o.trans (hb3.mono HU.o.size)) K2.o.lt);clear hb3 p0 p1 p2 p3 p4 p5 p6 rr0 rr1 rr2 rr3 rr4 rr5 hl1 hl2 HDI;by_cases hv0:ix<0
    ·have HR:Hid (zaH f d=86):=zh (by rw[HBAD.o (by rw[HST.o,if_pos hv0];decide),HST.o,if_pos hv0]);go_wp2_with fail;refine(zar 86 _ _).mono ?_;rintro e W4 ⟨d4,pv,at4,rfl,hwv,hb4⟩;have HB4:=zh (HBq.o.trans (hb4.mono HBq.o.size));have BB4:=zh (K2q.o.below hb4 K2q.o.lt);have HWV:=zh hwv;obtain⟨pq,pc,rfl,-⟩:=hwv;clear hb4;obtain⟨q0,q1,q2⟩:=Fld.rr3 BB4.o.row;obtain⟨z0,z1,z2⟩:=ff3 BB4.o;have hl3:=BB4.o.lt;go_wp2_with fail;rw[HR.o];exact zal (i:=4) rfl (zak rfl BB4.o _ _ _) HWV.o (zae HB4.o (by omega) _ _ _) rfl
    ·have HE:Hid (dcE f d k=0):=zh (by rw[HST.o,if_neg hv0]);go_wp2_with fail;exact⟨⟨k+1,by omega,by go_num,zh (zgb HER.o HE.o),HB3⟩,by simp only[intOf];omega⟩
  ·obtain rfl:k=n:=by omega
   obtain⟨q0,q1,q2⟩:=Fld.rr3 K2.o.row;obtain⟨z0,z1,z2⟩:=ff3 K2.o;have hl3:=K2.o.lt;have HR:Hid (zaH f d=0):=zh (by rw[zjy HK.o,HNN.o,Int.toNat_natCast,HER.o]);go_wp2_with fail;rw[HR.o];exact zal (i:=4) rfl (zak rfl K2.o _ _ _) zcE (zae HBw.o (by omega) _ _ _) rfl
theorem znf {w:World}{f:Fd}{d:Dt}{fs ds:List Value}{n o:Nat}(hf:FdAt w f fs)(hd:DAt (fun _=>True) w d ds)(F:Fit f d n o)(hT:Lib.Utf8Tabs 1 2 w)(hib:∀e ∈ d.dict,zah e.len) :
  Calls Tryz.prog 66 #[.agg fs.toArray,.agg ds.toArray] w (zcP w (zaH f d)):=by
 by_cases h12:f.k=12
 ·exact zk4 hf hd F hT hib h12
 by_cases h13:f.k=13
 ·exact zk5 hf hd F hT hib h13
 by_cases h15:f.k=15
 ·exact zk6 hf hd F hT hib h15 (by have:=zaW (zaE F.may).1 (.inl h15);omega)
 by_cases h18:f.k=18
 ·exact zk7 hf hd F hT hib h18
 by_cases h19:f.k=19
 ·exact zk8 hf hd F hT hib h19
 ·exact zmd hf hd F hT hib ⟨by omega,h18,h19⟩
end Go.Fld
namespace Go.Fld
open Go Go.RowKit Go.Proofs Go.ChangeShapes Go.WideShapes Go.ChangeAt Go.Shelf
theorem zhV {step:Nat->Int}:∀ {n},zc8 step n=0->∀k,k<n->step k=0
 | n+1,h,k,hk=>by
  unfold zc8 at h;split at h
  ·rename_i h0
   by_cases hkn:k=n
   ·rw[hkn];exact h
   ·exact zhV h0 k (by omega)
  ·rename_i h0
   exact absurd h h0
def za9 (a:Int)(l:List Int):Int:=l.foldl (fun a x=>wrap64 (a+x)) a
def zco (l:List Int)(a z:Nat):List Int:=(l.drop a).take (z-a)
def adv (s:ByteArray)(eo r:Nat):Nat->Nat->Nat
 | 0,run=>run
 | m+1,run=>if s32 s (eo+run)<=(r:Int) then adv s eo r m (run+1) else run
def zbM (d:Dt):Dt:=(d.kids[0]?).getD d
def at2 (ws:List (List Int))(i j:Nat):Int:=((((ws[i]?).getD [])[j]?).getD 0)
def zce (f:Fd)(d:Dt)(r run:Nat):Nat:=if f.k=20 then adv (buf (zbM d) 1) (zbM d).off.toNat r ((zbM d).len.toNat-run) run else run
def zcM (ws:List (List Int))(r:Nat):Nat->Int
 | 0=>16
 | k+1=>wrap64 (zcM ws r k+at2 ws k r)
def zbC (f:Fd)(d:Dt)(ws:List (List Int))(r run:Nat):Int:=
 if f.k=14 then wrap64 (16+f.wd)
 else if f.k=12\/f.k=13 then 16+(s32 (buf d 1) (r+1)-s32 (buf d 1) r)
 else if f.k=17 then zcM ws r ws.length
 else if f.k=18 then wrap64 (16+at2 ws (zaq (buf d 0) r).toNat (s32 (buf d 1) r).toNat)
 else if f.k=19 then at2 ws 0 (zcG f d (buf d 1) r).toNat
 else if f.k=20 then at2 ws 1 run
 else 16
def zbd (f:Fd)(d:Dt)(r:Nat):Nat × Nat:=
 if f.k=15 then((s32 (buf d 1) r).toNat,(s32 (buf d 1) (r+1)).toNat)
 else if f.k=16 then(r*f.wd.toNat,(r+1)*f.wd.toNat) else(0,0)
def zcu (f:Fd)(d:Dt)(ws:List (List Int))(r run:Nat):Int × Nat:=
 if zaF f.k d.bufs r=true then(16,run)
 else(za9 (zbC f d ws r (zce f d r run)) (zco ((ws[0]?).getD []) (zbd f d r).1 (zbd f d r).2),zce f d r run)
def zca (f:Fd)(d:Dt)(ws:List (List Int))(o:Nat):Nat->List Int × Nat
 | 0=>([],0)
 | k+1=>((zca f d ws o k).1 ++ [(zcu f d ws (o+k) (zca f d ws o k).2).1],(zcu f d ws (o+k) (zca f d ws o k).2).2)
def zbo (f:Fd)(d:Dt)(ws:List (List Int)):List Int:=(zca f d ws d.off.toNat d.len.toNat).1
theorem zd5 (f:Fd)(d:Dt)(ws:List (List Int))(o:Nat):∀k,(zca f d ws o k).1.length=k
 | 0=>rfl
 | k+1=>by unfold zca;simp[zd5 f d ws o k]
structure Wd (d:Dt)(ws:List (List Int)):Prop where
 n:ws.length=(zac d).length
 eq:∀k (hk:k<ws.length) (hk':k<(zac d).length),(ws[k].length:Int)=(zac d)[k].len
theorem Fit.parts {f:Fd}{d:Dt}{n o:Nat}(F:Fit f d n o)(h:f.k≠19):zac d=d.kids:=by
 have:=F.nd;rw[if_neg h] at this;unfold zac;rw[if_neg (by omega)]
theorem Fit.partsDict {f:Fd}{d:Dt}{n o:Nat}(F:Fit f d n o)(h:f.k=19):zac d=d.dict:=by
 have:=F.nd;rw[if_pos h] at this;unfold zac;rw[if_pos (by omega)]
theorem zb7 {d:Dt}{k:Nat}(h:k<d.bufs.length):buf d k=d.bufs[k]:=by unfold buf;rw[List.getElem?_eq_getElem h];rfl
theorem Fit.offs {f:Fd}{d:Dt}{n o:Nat}(F:Fit f d n o)(hk:f.k=12\/f.k=13\/f.k=15)(hr:zaH f d=0)(k:Nat)(hlt:k<n) :
  0<=s32 (buf d 1) (o+k)/\s32 (buf d 1) (o+k)<=s32 (buf d 1) (o+(k+1))/\s32 (buf d 1) (o+(k+1))<=zfw f d:=by
 rw[zgc hk] at hr;have h1:zcq f d=0:=by
  unfold zct at hr;by_cases h:zcq f d=0
  ·exact h
  ·rw[if_pos h] at hr;exact hr
 unfold zcq at h1;split at h1
 ·omega
 rename_i h2
 have h3:zcR (buf d 1) o (zfw f d) (n+1)=true:=by
  have:(d.bufs[1]?).getD ByteArray.empty=buf d 1:=rfl;rw[this,F.len,F.off,Int.toNat_natCast,Int.toNat_natCast] at h2;simpa using h2
 exact zjZ h3 k hlt
theorem Fit.items15 {f:Fd}{d:Dt}{n o:Nat}{ws:List (List Int)}(F:Fit f d n o)(W:Wd d ws)(hk:f.k=15)(hr:zaH f d=0)(k:Nat)(hlt:k<n) :
  ∃h0:0<ws.length,∃A Z:Nat,s32 (buf d 1) (o+k)=A/\s32 (buf d 1) (o+(k+1))=Z/\A<=Z/\Z<=ws[0].length:=by
 obtain⟨h1,h2,h3⟩:=F.offs (.inr (.inr hk)) hr k hlt;have hp:=F.parts (by omega);have hl:=F.list hk;have ho:=zaW (zaE F.may).1 (.inl hk);have h0:0<ws.length:=by rw[W.n,hp];omega
 have hk0:0<d.kids.length:=by omega
 have hw:=W.eq 0 h0 (by rw[hp];exact hk0);have ht:zfw f d=(ws[0].length:Int):=by
  unfold zfw;rw[if_pos hk,List.getElem?_eq_getElem hk0,hw];simp only[hp];rfl
 rw[ht] at h3;obtain⟨v0,hv0⟩:=nm (s32 (buf d 1) (o+k));obtain⟨v1,hv1⟩:=nm (s32 (buf d 1) (o+(k+1)));rw[<-hv0] at h1 h2 ⊢;rw[<-hv1] at h2 h3 ⊢;clear hv0 hv1;exact⟨h0,v0.toNat,v1.toNat,by omega,by omega,by omega,by omega⟩
theorem Fit.items16 {f:Fd}{d:Dt}{n o:Nat}{ws:List (List Int)}(F:Fit f d n o)(W:Wd d ws)(hk:f.k=16)(k:Nat)(hlt:k<n) :
  ∃h0:0<ws.length,∃m:Nat,f.wd=m/\1<=m/\m<=64/\(o+k+1)*m<=ws[0].length:=by
 have hp:=F.parts (by omega);have ho:=zaW (zaE F.may).1 (.inr (.inl hk));have hw:=zfK (zaE F.may).1 hk;have hkn:d.kids.length=f.kids.length:=by rw[F.nk,zde F.may (by omega) (by omega)]
 have hk0:0<d.kids.length:=by omega
 have h0:0<ws.length:=by rw[W.n,hp];omega
 have hwa:=W.eq 0 h0 (by rw[hp];exact hk0);simp only[hp] at hwa;have hkd:=F.kid 0 hk0;unfold zey at hkd;simp only[Bool.or_eq_false_iff,Bool.and_eq_false_iff,decide_eq_false_iff_not] at hkd;have hkk:¬d.kids[0].len<((n+o:Nat):Int)*f.wd:=by
  rcases hkd.1 with h|h
  ·exact absurd hk h
  ·exact h
 refine⟨h0,f.wd.toNat,by omega,by omega,by omega,?_⟩;obtain⟨m,hm⟩:∃m:Nat,f.wd=m:=⟨f.wd.toNat,by omega⟩;rw[hm] at hkk ⊢;rw[Int.toNat_natCast];rw[<-Int.natCast_mul] at hkk;have:(o+k+1)*m<=(n+o)*m:=Nat.mul_le_mul_right m (by omega);omega
theorem Fit.items17 {f:Fd}{d:Dt}{n o:Nat}{ws:List (List Int)}(F:Fit f d n o)(W:Wd d ws)(hk:f.k=17)(k:Nat)(hlt:k<n)(j:Nat)(hj:j<ws.length):o+k<ws[j].length:=by
 have hp:=F.parts (by omega);have hj':j<d.kids.length:=by rw[<-hp,<-W.n];exact hj
 have hwa:=W.eq j hj (by rw[hp];exact hj');simp only[hp] at hwa;have hkd:=F.kid j hj';unfold zey at hkd;simp only[Bool.or_eq_false_iff,Bool.and_eq_false_iff,decide_eq_false_iff_not] at hkd;have hkk:¬d.kids[j].len<((n+o:Nat):Int):=by
  rcases hkd.2 with h|h
  ·exact absurd hk h
  ·exact h
 omega
theorem Fit.items18 {f:Fd}{d:Dt}{n o:Nat}{ws:List (List Int)}(F:Fit f d n o)(W:Wd d ws)(hk:f.k=18)(hr:zaH f d=0)(k:Nat)(hlt:k<n) :
  ∃c v:Nat,zaq (buf d 0) (o+k)=c/\s32 (buf d 1) (o+k)=v/\∃hc:c<ws.length,v<ws[c].length:=by
 have hp:=F.parts (by omega);rw[zjx hk,F.len,Int.toNat_natCast] at hr;have h:=zhV hr k hlt;have hb:=za1 (buf d 0) (o+k);obtain⟨c,hc⟩:∃c:Nat,zaq (buf d 0) (o+k)=c:=⟨(zaq (buf d 0) (o+k)).toNat,by omega⟩;unfold chE at h;rw[F.off,Int.toNat_natCast,hc] at h;split at h
 ·omega
 rename_i h1
 have hck:c<d.kids.length:=by omega
 split at h
 ·omega
 rename_i h2
 rw[Int.toNat_natCast,List.getElem?_eq_getElem hck] at h2;have h2:¬(s32 (buf d 1) (o+k)<0\/d.kids[c].len<=s32 (buf d 1) (o+k)):=h2;have hcw:c<ws.length:=by rw[W.n,hp];exact hck
 have hwa:=W.eq c hcw (by rw[hp];exact hck);simp only[hp] at hwa;obtain⟨v1,hv1⟩:=nm (s32 (buf d 1) (o+k));rw[<-hv1] at h2 ⊢;clear hv1;exact⟨c,v1.toNat,hc,by omega,hcw,by omega⟩
theorem Fit.items19 {f:Fd}{d:Dt}{n o:Nat}{ws:List (List Int)}(F:Fit f d n o)(W:Wd d ws)(hk:f.k=19)(hr:zaH f d=0)(k:Nat)(hlt:k<n)(hn:zaF f.k d.bufs (o+k)=false) :
  ∃v:Nat,zcG f d (buf d 1) (o+k)=v/\∃h0:0<ws.length,v<ws[0].length:=by
 have hp:=F.partsDict hk;obtain⟨-,hdl,m,hm,h1m,-,-⟩:=F.dict hk;rw[zjy hk,F.len,Int.toNat_natCast] at hr;have h:=zhV hr k hlt;unfold dcE at h;rw[F.off,Int.toNat_natCast,hn,if_neg (by decide)] at h;split at h
 ·omega
 rename_i h1
 have hd0:0<d.dict.length:=by omega
 have h0:0<ws.length:=by rw[W.n,hp];omega
 have hwa:=W.eq 0 h0 (by rw[hp];exact hd0);simp only[hp] at hwa;have he:=zhe (f:=f) (d:=d) (s:=buf d 1) (r:=o+k) hm hd0;have hlb:=zd4 (buf d 1) ((o+k)*m) m;refine⟨(zcG f d (buf d 1) (o+k)).toNat,by omega,h0,?_⟩;have hz:¬d.dict[0].len<0:=by omega
 simp only[if_neg hz] at he;rw[he] at h1 ⊢;split
 ·rename_i h2
  rw[if_pos h2] at h1;omega
 ·rename_i h2
  omega
theorem zj0 {a b:Dt}{L:Nat}(h:zbO a b L=0)(hl:0<L)(n o:Nat)(hn:a.len=n)(ho:a.off=o):∃m,n=m+1/\(L:Int)<=s32 (buf a 1) (o+m)/\a.len=b.len:=by
 unfold zbO at h;split at h
 ·omega
 rename_i h1
 split at h
 ·omega
 split at h
 ·omega
 rename_i h2
 rw[hn,ho,Int.toNat_natCast,Int.toNat_natCast] at h2;cases n with
 | zero=>
  have:zcs ((a.bufs[1]?).getD ByteArray.empty) o 0=0:=rfl;rw[this] at h2;omega
 | succ m=>exact⟨m,rfl,Int.not_lt.1 h2,by simpa using h1⟩
theorem zpz {s:ByteArray}{eo r N run:Nat}(h:s32 s (eo+run)<=(r:Int))(hr:run<N):adv s eo r (N-run) run=adv s eo r (N-(run+1)) (run+1):=by
 rw[show N-run=(N-(run+1))+1 by omega];rw[adv,if_pos h]
theorem zpA {s:ByteArray}{eo r N run:Nat}(h:¬s32 s (eo+run)<=(r:Int))(hr:run<N):adv s eo r (N-run) run=run:=by
 rw[show N-run=(N-(run+1))+1 by omega];rw[adv,if_neg h]
def zk9 (ws:List (List Int)):M:=.many 1 (ws.map fun l=>[zdQ l])
theorem zhk {S:Nat->Prop}{w:World}{l:List (List Int)}{p:Option Addr}{n cap:Nat}(h:M.At S w (zk9 l) (.slice p n cap))(i:Nat)(hi:i<l.length):∃b o q c,p=some ⟨b,o,none⟩/\S b/\w.cell? ⟨b,o+i,none⟩=some (.slice q l[i].length c)/\M.At S w (zdQ l[i]) (.slice q l[i].length c):=by
 obtain⟨b,o,cs,rfl,hS,h2,h3,h4⟩:=M.At.get h i (by simpa using hi);simp only[List.getElem_map] at h4;obtain⟨p,cap,us,rfl,h5,h6⟩:=h4.many;have h7:=h3 0 _ rfl;rw[Nat.mul_one,Nat.add_zero] at h7;have e:(l[i].map fun x=>[M.one (.int .i64 x)]).length=l[i].length:=List.length_map _;rw[e] at h7 h5;exact⟨b,o,p,cap,rfl,hS,h7,h5⟩
theorem zee {S:Nat->Prop}{w:World}{l:List Int}{p:Option Addr}{n cap:Nat}(h:M.At S w (zdQ l) (.slice p n cap)):(n=l.length/\l.length<=cap/\cap<=maxLen)/\∀i (hi:i<l.length),∃b o,p=some ⟨b,o,none⟩/\S b/\w.cell? ⟨b,o+i,none⟩=some (.int .i64 l[i]):=by
 refine⟨by have:=zam h;simpa using this,fun i hi=>?_⟩;obtain⟨b,o,cs,rfl,hS,h2,h3,h4⟩:=M.At.get h i (by simpa using hi);simp only[List.getElem_map] at h4;obtain⟨us,rfl,h5⟩:=h4.one;have h7:=h3 0 _ rfl;rw[Nat.mul_one,Nat.add_zero] at h7;exact⟨b,o,rfl,hS,h7⟩
theorem zgd {ws:List (List Int)}{i j:Nat}(hi:i<ws.length)(hj:j<ws[i].length):at2 ws i j=ws[i][j]:=by
 unfold at2;rw[List.getElem?_eq_getElem hi,Option.getD_some,List.getElem?_eq_getElem hj];rfl
def zdR (d:Dt):Int:=zbO ((d.kids[0]?).getD d) ((d.kids[1]?).getD d) (d.off+d.len)
def zdA (f:Fd)(d:Dt)(c:Int × List (List Int)):Int × List Int:=
 if c.1≠0 then(c.1,[])
 else if f.k=20/\zdR d≠0 then(zdR d,[])
 else if 4194304<za9 0 (zbo f d c.2) then(3,[]) else(0,zbo f d c.2)
mutual
def zap (f:Fd):Dt->Int × List Int
 | .mk len off nul bufs kids dict=>
  if zaP f (.mk len off nul bufs kids dict)≠0 then(zaP f (.mk len off nul bufs kids dict),[])
  else if zaH f (.mk len off nul bufs kids dict)≠0 then(zaH f (.mk len off nul bufs kids dict),[])
  else zdA f (.mk len off nul bufs kids dict) (if 0<dict.length then zbL f 0 dict else zbL f 0 kids)
def zbL (f:Fd)(k:Nat):List Dt->Int × List (List Int)
 | []=>(0,[])
 | p :: r=>
  if(zap (zat f k) p).1≠0 then((zap (zat f k) p).1,[])
  else if(zbL f (k+1) r).1≠0 then((zbL f (k+1) r).1,[])
  else(0,(zap (zat f k) p).2 :: (zbL f (k+1) r).2)
end
theorem zcS (f:Fd)(d:Dt):zap f d =
  if zaP f d≠0 then(zaP f d,[]) else if zaH f d≠0 then(zaH f d,[]) else zdA f d (zbL f 0 (zac d)):=by
 cases d with
 | mk len off nul bufs kids dict=>
  unfold zap;have e:(if 0<dict.length then zbL f 0 dict else zbL f 0 kids)=zbL f 0 (zac (.mk len off nul bufs kids dict)):=by
   unfold zac;show _=zbL f 0 (if 0<dict.length then dict else kids);split <;> rfl
  rw[e]
theorem ze3 (f:Fd)(k:Nat)(p:Dt)(r:List Dt):zbL f k (p :: r) =
  if(zap (zat f k) p).1≠0 then((zap (zat f k) p).1,[])
  else if(zbL f (k+1) r).1≠0 then((zbL f (k+1) r).1,[])
  else(0,(zap (zat f k) p).2 :: (zbL f (k+1) r).2):=by
 rw[zbL]
def zjz (f:Fd)(l:List Dt)(k:Nat):Prop:=∀i (h:i<l.length),i<k->(zap (zat f i) l[i]).1=0
def za4 (f:Fd):Nat->List Dt->List (List Int)
 | _,[]=>[]
 | k,p :: r=>(zap (zat f k) p).2 :: za4 f (k+1) r
theorem zcB (f:Fd):∀(l:List Dt) (k:Nat),(za4 f k l).length=l.length
 | [],_=>rfl
 | p :: r,k=>by unfold za4;simp[zcB f r (k+1)]
theorem ze4 (f:Fd):∀(l:List Dt) (k i:Nat) (h:i<l.length) (h':i<(za4 f k l).length),(za4 f k l)[i]=(zap (zat f (k+i)) l[i]).2
 | p :: r,k,0,_,_=>rfl
 | p :: r,k,i+1,h,h'=>by
  have:=ze4 f r (k+1) i (by simpa using h) (by unfold za4 at h';simpa using h');simp only[za4,List.getElem_cons_succ];rw[this,show k+1+i=k+(i+1) by omega]
theorem zhl (f:Fd):∀(l:List Dt) (k:Nat),(∀i (h:i<l.length),(zap (zat f (k+i)) l[i]).1=0)->zbL f k l=(0,za4 f k l)
 | [],k,_=>rfl
 | p :: r,k,h=>by
  have h0:=h 0 (by simp);have hr:=zhl f r (k+1) (fun i hi=>by
   have:=h (i+1) (by simpa using hi);simp only[List.getElem_cons_succ] at this
   rwa [show k+(i+1)=k+1+i by omega] at this)
  simp only[List.getElem_cons_zero,Nat.add_zero] at h0;rw[ze3,hr,if_neg (by omega),if_neg (by simp)];rfl
theorem ziZ (f:Fd):∀(l:List Dt) (k j:Nat) (hj:j<l.length),(∀i (h:i<l.length),i<j->(zap (zat f (k+i)) l[i]).1=0)->(zap (zat f (k+j)) l[j]).1≠0->(zbL f k l).1=(zap (zat f (k+j)) l[j]).1
 | p :: r,k,0,hj,_,hb=>by
  simp only[List.getElem_cons_zero,Nat.add_zero] at hb ⊢;rw[ze3,if_pos hb]
 | p :: r,k,j+1,hj,h,hb=>by
  have h0:=h 0 (by simp) (by omega);simp only[List.getElem_cons_zero,Nat.add_zero] at h0;simp only[List.getElem_cons_succ] at hb ⊢;rw[show k+(j+1)=k+1+j by omega] at hb ⊢;have hr:=ziZ f r (k+1) j (by simpa using hj) (fun i hi hij=>by
   have:=h (i+1) (by simpa using hi) (by omega);simp only[List.getElem_cons_succ] at this
   rwa [show k+(i+1)=k+1+i by omega] at this) hb
  rw[ze3,if_neg (by omega),if_pos (by rw[hr];exact hb),hr]
theorem zng {f:Fd}{d:Dt}{c:Int × List (List Int)}(h:(zdA f d c).1=0):(zdA f d c).2.length=d.len.toNat:=by
 unfold zdA at h ⊢;split
 ·rename_i h1;rw[if_pos h1] at h;exact absurd h h1
 rename_i h1
 rw[if_neg h1] at h;split
 ·rename_i h2;rw[if_pos h2] at h;exact absurd h h2.2
 rename_i h2
 rw[if_neg h2] at h;split
 ·rename_i h3;rw[if_pos h3] at h;simp at h
 ·unfold zbo;exact zd5 _ _ _ _ _
theorem zhm {f:Fd}{d:Dt}(h:(zap f d).1=0):zaP f d=0/\((zap f d).2.length:Int)=d.len:=by
 rw[zcS] at h ⊢;by_cases h1:zaP f d=0
 ·rw[if_neg (by simp[h1])] at h ⊢;obtain⟨n,o,F⟩:=Fit.of h1;by_cases h2:zaH f d=0
  ·rw[if_neg (by simp[h2])] at h ⊢;refine⟨h1,?_⟩;rw[zng h,F.len,Int.toNat_natCast]
  ·rw[if_pos h2] at h;exact absurd h h2
 ·rw[if_pos h1] at h;exact absurd h h1
theorem zla {f:Fd}{d:Dt}(h:∀i (h:i<(zac d).length),(zap (zat f i) (zac d)[i]).1=0):Wd d (za4 f 0 (zac d)) where
 n:=zcB f _ _
 eq k hk hk':=by
  rw[ze4 f _ 0 k hk' hk,Nat.zero_add];exact(zhm (h k hk')).2
inductive DtOk:Dt->Prop
 | mk {d:Dt}:zah d.len->(∀e ∈ d.kids,DtOk e)->(∀e ∈ d.dict,DtOk e)->DtOk d
theorem DtOk.len {d:Dt}(h:DtOk d):zah d.len:=by cases h;assumption
theorem DtOk.kids {d:Dt}(h:DtOk d):∀e ∈ d.kids,DtOk e:=by cases h;assumption
theorem DtOk.dict {d:Dt}(h:DtOk d):∀e ∈ d.dict,DtOk e:=by cases h;assumption
theorem DtOk.parts {d:Dt}(h:DtOk d):∀e ∈ zac d,DtOk e:=by
 unfold zac;split
 ·exact h.dict
 ·exact h.kids
end Go.Fld
