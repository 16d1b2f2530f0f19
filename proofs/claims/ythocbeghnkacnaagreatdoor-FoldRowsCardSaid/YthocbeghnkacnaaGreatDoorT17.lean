import Derived.Test.YthocbeghnkacnaaGreatDoorT07
import Derived.Test.YthocbeghnkacnaaGreatDoorT16
set_option linter.unusedVariables false
set_option linter.unusedSimpArgs false
set_option linter.unnecessarySimpa false
set_option maxRecDepth 100000
set_option maxHeartbeats 16000000
namespace Go.Fld
open Go Go.RowKit Go.Proofs Go.ChangeShapes Go.WideShapes Go.ChangeAt Go.Shelf
theorem zrw:∀X:Fin 256,bits .and .u8 ((X.val:Nat):Int) 7=((X.val % 8:Nat):Int):=by decide
theorem zqy:∃f:Int->Int,∀a,bits BinOp.and IntKind.u8 a 7=f a:=⟨_,fun _=>rfl⟩
theorem zdz {t:ByteArray}(h:8<=t.size):(ze2 t &&& 9259542123273814144=0)↔Lib.Asc t 8:=Lib.word_asc t h
theorem zk2 (A:Nat)(l:A<18446744073709551616):bits BinOp.and IntKind.u64 (A:Int) 9259542123273814144=((A &&& 9259542123273814144:Nat):Int):=u64_and_nat A 9259542123273814144 l (by omega)
theorem zrp:∃f:Int->Int->Int,(∀a c,bits BinOp.or IntKind.u64 a c=f a c)/\True:=⟨_,fun _ _=>rfl,trivial⟩
theorem zrq:∃f:Int->Int,∀a,bits BinOp.and IntKind.u64 a 9259542123273814144=f a:=⟨_,fun _=>rfl⟩
theorem zk3 {w:World}{s:ByteArray}{p:Option Addr}{N cap:Nat}(hp:0<s.size->∃b o,p=some ⟨b,o,none⟩/\ByIn w b o s)(hN:N=s.size)(hc1:N<=cap)(hc2:cap<=9223372036854775807)(hT:Lib.Utf8Tabs 1 2 w) :
  Calls Tryz.prog 102 #[.slice p N cap] w fun e w'=>e=.returned (.bool (Lib.validD s.data.toList))/\Below w.heap.size w w':=by
 obtain⟨hiA,hHi⟩:=zrq;have HI:=zh hHi;have HP:=zh hp;have HT:=zh hT;obtain⟨ANS,hANS⟩:∃ANS,Lib.validD s.data.toList=ANS:=⟨_,rfl⟩;rw[hANS];have HANS:=zh hANS;have HN:=zh hN;clear hANS hN hp hT
 go_in
 go_wp2_with fail
 go_loopg [0] (N+1) (fun gk s0 wx=>∃(n:Nat) (q:Option Addr),s0=.slice q n n/\n<gk/\n<=N/\Hid (Below w.heap.size w wx/\∃t:ByteArray,n=t.size/\(0<t.size->∃b o,q=some ⟨b,o,none⟩/\ByIn w b o t)/\Lib.validD t.data.toList=ANS))
 case atStart=>exact⟨N,p,rfl,by omega,Nat.le_refl _,zh ⟨Below.refl _ _,s,HN.o,HP.o,HANS.o⟩⟩
 case round=>
  obtain⟨n,q,rfl,hg,hnN,HR⟩:=hrel;obtain⟨hbw,t,hnt,hb0,hv⟩:=HR.o;have HBW:=zh hbw;obtain⟨g',rfl⟩:∃g',gk=g'+1:=⟨gk-1,by omega⟩;clear HR hbw;cases n with
  | zero=>
   have ht0:t.data.toList=[]:=List.eq_nil_of_length_eq_zero (by rw[<-Lib.size_eq];omega);rw[ht0,Lib.validD_nil] at hv;subst hv;clear hb0 ht0 hnt;go_wp2_with fail;go_ret;exact⟨rfl,HBW.o⟩
  | succ m=>
   obtain⟨b,o,rfl,hby⟩:=hb0 (by omega);obtain⟨x0,hx0⟩:∃x0,t.get! 0=x0:=⟨_,rfl⟩;have c0:wr.cell? ⟨b,o,none⟩=some (.int .u8 (x0.toNat:Int)):=by
    have:=zaa HBW.o (hby 0 (by omega))
    rwa [Nat.add_zero,hx0] at this
   have hx0lt:x0.toNat<256:=x0.toNat_lt;have HBY:=zh hby;have HV:=zh hv;have HNT:=zh hnt;clear hb0 hby hv hnt;by_cases hasc:x0.toNat<128
   ·have hascz:(x0.toNat:Int)<128:=by omega
    as_aux_lemma=>
     have a1:Lib.Asc t 1:=Lib.asc_one t (by rw[<-HNT.o];omega) (by rw[hx0];exact hasc);obtain⟨t1,ht1⟩:∃t1,t.extract 1 t.size=t1:=⟨_,rfl⟩;have HS1:Hid (m=t1.size):=zh (by rw[<-ht1,Lib.ext_size,<-HNT.o];rfl);have HV1:Hid (Lib.validD t1.data.toList=ANS):=zh (by rw[<-ht1,Lib.valid_skip t 1 a1];exact HV.o);have HB1:Hid (ByIn w b (o+1) t1):=zh (by rw[<-ht1];exact HBY.o.drop 1);clear a1 ht1 hx0;by_cases hm0:m=0
     ·obtain rfl:=hm0;go_wp2_with fail
      go_roundg g'
      case measure=>omega
      case rel=>exact⟨0,_,rfl,by omega,by omega,zh ⟨HBW.o,t1,HS1.o,(fun h=>absurd h (by have:=HS1.o;omega)),HV1.o⟩⟩
     ·by_cases c8:8<m
      ·obtain⟨k,hk⟩:∃k,m-8=k:=⟨_,rfl⟩;have c8z:(8:Int)<(m:Int):=by omega
       have hm8:¬m=8:=by omega
       have HC8:=zh (And.intro c8 hk);have HK:=zh hk;have HGN:=zh (And.intro hg hnN);clear c8 hg hnN hk;obtain⟨A1,hA1⟩:∃A1,ze2 t1=A1:=⟨_,rfl⟩;have lA1:A1<18446744073709551616:=hA1 ▸ Lib.word_lt t1;have KA1:Hid (hiA (A1:Int)=0↔Lib.Asc t1 8):=zh (by rw[<-HI.o,zk2 A1 lA1,<-hA1,<-zdz (by have:=HS1.o;have:=HC8.o;omega)];exact Int.natCast_eq_zero);have HA1:=zh hA1;clear hA1 lA1;obtain⟨Z1,hZ1⟩:=nm (hiA (A1:Int));rw[<-hZ1] at KA1;have HZ1:=zh hZ1;clear hZ1;go_wp2_with fail;refine(zdi ((HB1.o).below HBW.o) (by have:=HS1.o;have:=HC8.o;omega) _ _ HS1.o (Nat.le_refl _)).mono ?_;rintro e W1 ⟨rfl,q1,rfl⟩;rw[HA1.o];have HBW1:=zh (zab HBW.o q1);obtain⟨w1,hw1⟩:=nm (wr.drewN q1);rw[<-hw1] at HBW1 ⊢;clear hw1 HBW;by_cases hz1:Z1=0
       ·have hz1b:(hiA (A1:Int) == 0)=true:=by rw[<-HZ1.o];simp[hz1]
        have a8:Lib.Asc t1 8:=KA1.o.1 hz1;obtain⟨t2,ht2⟩:∃t2,t1.extract 8 t1.size=t2:=⟨_,rfl⟩;have HS2:Hid (k=t2.size):=zh (by rw[<-ht2,Lib.ext_size,<-HS1.o];exact HC8.o.2.symm);have HV2:Hid (Lib.validD t2.data.toList=ANS):=zh (by rw[<-ht2,Lib.valid_skip t1 8 a8];exact HV1.o);have HB2:Hid (ByIn w b (o+1+8) t2):=zh (by rw[<-ht2];exact HB1.o.drop 8);clear ht2 a8 KA1
        go_upto_region 8 with fail
        rw[HK.o];by_cases c16:16<k
        ·have c16z:(16:Int)<(k:Int):=by omega
         have hk8:¬k=8:=by omega
         have hk16:¬k=16:=by omega
         have HC16:=zh c16;clear c16;obtain⟨A2,hA2⟩:∃A2,ze2 t2=A2:=⟨_,rfl⟩;obtain⟨t2b,ht2b⟩:∃t2b,t2.extract 8 t2.size=t2b:=⟨_,rfl⟩;have HS2b:Hid (k-8=t2b.size):=zh (by rw[<-ht2b,Lib.ext_size,<-HS2.o]);have HB2b:Hid (ByIn w b (o+1+8+8) t2b):=zh (by rw[<-ht2b];exact HB2.o.drop 8);obtain⟨A3,hA3⟩:∃A3,ze2 t2b=A3:=⟨_,rfl⟩;have lA2:A2<18446744073709551616:=hA2 ▸ Lib.word_lt t2;have lA3:A3<18446744073709551616:=hA3 ▸ Lib.word_lt t2b;have N1:Hid (∀q,Calls Tryz.prog 110 #[.slice (some ⟨b,o+1+8,none⟩) k k] (w1.drewN q) (fun e w'=>e=.returned (.int .u64 (A2:Int))/\∃z,w'=(w1.drewN q).drewN z)):=zh (fun q=>by rw[<-hA2];exact zdi (HB2.o.below (zab HBW1.o q)) (by have:=HS2.o;have:=HC16.o;omega) _ _ HS2.o (Nat.le_refl _));have N2:Hid (∀q,Calls Tryz.prog 110 #[.slice (some ⟨b,o+1+8+8,none⟩) (k-8) (k-8)] (w1.drewN q) (fun e w'=>e=.returned (.int .u64 (A3:Int))/\∃z,w'=(w1.drewN q).drewN z)):=zh (fun q=>by rw[<-hA3];exact zdi (HB2b.o.below (zab HBW1.o q)) (by have:=HS2b.o;have:=HC16.o;omega) _ _ HS2b.o (Nat.le_refl _));have lor2:A2 ||| A3<18446744073709551616:=Nat.or_lt_two_pow (n:=64) lA2 lA3;have hor2:bits .or .u64 (A2:Int) (A3:Int)=((A2 ||| A3:Nat):Int):=u64_or_nat A2 A3 lA2 lA3;obtain⟨O2,hO2⟩:=nm (bits .or .u64 (A2:Int) (A3:Int));have KO2:Hid (hiA O2=0->Lib.Asc t2 16):=zh (fun h0=>by
          rw[hO2,hor2,<-HI.o,zk2 _ lor2] at h0;obtain⟨e1,e2⟩:=(Lib.or_mask A2 A3 _).1 (Int.natCast_eq_zero.1 h0);rw[<-hA2] at e1;rw[<-hA3] at e2;exact Lib.asc_add t2 8 8 ((zdz (by have:=HS2.o;have:=HC16.o;omega)).1 e1) (by rw[ht2b];exact(zdz (by have:=HS2b.o;have:=HC16.o;omega)).1 e2))
         obtain⟨orU,hor,HOR⟩:=zrp;have HO2:Hid (orU (A2:Int) (A3:Int)=O2):=zh (by rw[hO2,hor]);clear hO2 hor2 lor2 lA2 lA3 hA2 hA3 ht2b;by_cases hz2:hiA O2=0
         ·have hz2b:(hiA (orU (A2:Int) (A3:Int)) == 0)=true:=by rw[HO2.o];simp[hz2]
          have a16:=KO2.o hz2;obtain⟨t3,ht3⟩:∃t3,t2.extract 16 t2.size=t3:=⟨_,rfl⟩;have HS3:Hid (k-16=t3.size):=zh (by rw[<-ht3,Lib.ext_size,<-HS2.o]);have HV3:Hid (Lib.validD t3.data.toList=ANS):=zh (by rw[<-ht3,Lib.valid_skip t2 16 a16];exact HV2.o);have HB3:Hid (ByIn w b (o+1+8+16) t3):=zh (by rw[<-ht3];exact HB2.o.drop 16);clear ht3 a16;go_wp2_with fail
          go_quiet (first|(with_reducible exact Calls.quiet_of (N1.o _))|(with_reducible exact Calls.quiet_of (N2.o _)))
          go_wp2_with fail
          as_aux_lemma=>
           go_loopg [0] (k-16+1) (fun g2 s0 wx=>∃(n:Nat) (q:Option Addr),s0=.slice q n n/\n<g2/\n<=k-16/\Hid (Below w.heap.size w wx/\∃t:ByteArray,n=t.size/\(0<t.size->∃b o,q=some ⟨b,o,none⟩/\ByIn w b o t)/\Lib.validD t.data.toList=ANS))
           case atStart=>exact⟨k-16,_,rfl,Nat.lt_succ_self _,Nat.le_refl _,zh ⟨zab HBW1.o _,t3,HS3.o,fun _=>⟨b,_,rfl,HB3.o⟩,HV3.o⟩⟩
           case round=>
            obtain⟨n2,q2,rfl,hg2,hn2,HR⟩:=hrel;obtain⟨hbu,u,hnu,hbo,hvu⟩:=HR.o;have HBU:=zh hbu;have HNU:=zh hnu;have HVU:=zh hvu;have HBO:=zh hbo;obtain⟨g3,rfl⟩:∃g3,gk=g3+1:=⟨gk-1,by omega⟩;clear HR hbu hnu hvu hbo;by_cases c32:32<n2
            ·have c32z:(32:Int)<(n2:Int):=by omega
             have hn8:¬n2=8:=by omega
             have hn16:¬n2=16:=by omega
             have hn24:¬n2=24:=by omega
             have hn32:¬n2=32:=by omega
             have g8z:(8:Int)<=(n2:Int):=by omega
             have g16z:(16:Int)<=(n2:Int):=by omega
             have g24z:(24:Int)<=(n2:Int):=by omega
             have HC32:=zh c32;have HG2:=zh (And.intro hg2 hn2);clear c32 hg2 hn2;obtain⟨bu,ou,rfl,hbyu⟩:=HBO.o (by have:=HNU.o;have:=HC32.o;omega);have HBY0:=zh hbyu;clear hbyu;obtain⟨B0,hB0⟩:∃B0,ze2 u=B0:=⟨_,rfl⟩;have lB0:B0<18446744073709551616:=hB0 ▸ Lib.word_lt u;have N1:Hid (∀q,Calls Tryz.prog 110 #[.slice (some ⟨bu,ou,none⟩) n2 n2] (wr.drewN q) (fun e w'=>e=.returned (.int .u64 (B0:Int))/\∃z,w'=(wr.drewN q).drewN z)):=zh (fun q=>by rw[<-hB0];exact zdi (HBY0.o.below (zab HBU.o q)) (by have:=HNU.o;have:=HC32.o;omega) _ _ HNU.o (Nat.le_refl _));obtain⟨u1x,hu1⟩:∃u1x,u.extract 8 u.size=u1x:=⟨_,rfl⟩;have HNU1:Hid (n2-8=u1x.size):=zh (by rw[<-hu1,Lib.ext_size,<-HNU.o]);have HBY1:Hid (ByIn w bu (ou+8) u1x):=zh (by rw[<-hu1];exact HBY0.o.drop 8);obtain⟨B1,hB1⟩:∃B1,ze2 u1x=B1:=⟨_,rfl⟩;have lB1:B1<18446744073709551616:=hB1 ▸ Lib.word_lt u1x;have N2:Hid (∀q,Calls Tryz.prog 110 #[.slice (some ⟨bu,ou+8,none⟩) (n2-8) (n2-8)] (wr.drewN q) (fun e w'=>e=.returned (.int .u64 (B1:Int))/\∃z,w'=(wr.drewN q).drewN z)):=zh (fun q=>by rw[<-hB1];exact zdi (HBY1.o.below (zab HBU.o q)) (by have:=HNU1.o;have:=HC32.o;omega) _ _ HNU1.o (Nat.le_refl _));obtain⟨u2x,hu2⟩:∃u2x,u.extract 16 u.size=u2x:=⟨_,rfl⟩;have HNU2:Hid (n2-16=u2x.size):=zh (by rw[<-hu2,Lib.ext_size,<-HNU.o]);have HBY2:Hid (ByIn w bu (ou+16) u2x):=zh (by rw[<-hu2];exact HBY0.o.drop 16);obtain⟨B2,hB2⟩:∃B2,ze2 u2x=B2:=⟨_,rfl⟩;have lB2:B2<18446744073709551616:=hB2 ▸ Lib.word_lt u2x;have N3:Hid (∀q,Calls Tryz.prog 110 #[.slice (some ⟨bu,ou+16,none⟩) (n2-16) (n2-16)] (wr.drewN q) (fun e w'=>e=.returned (.int .u64 (B2:Int))/\∃z,w'=(wr.drewN q).drewN z)):=zh (fun q=>by rw[<-hB2];exact zdi (HBY2.o.below (zab HBU.o q)) (by have:=HNU2.o;have:=HC32.o;omega) _ _ HNU2.o (Nat.le_refl _));obtain⟨u3x,hu3⟩:∃u3x,u.extract 24 u.size=u3x:=⟨_,rfl⟩;have HNU3:Hid (n2-24=u3x.size):=zh (by rw[<-hu3,Lib.ext_size,<-HNU.o]);have HBY3:Hid (ByIn w bu (ou+24) u3x):=zh (by rw[<-hu3];exact HBY0.o.drop 24);obtain⟨B3,hB3⟩:∃B3,ze2 u3x=B3:=⟨_,rfl⟩;have lB3:B3<18446744073709551616:=hB3 ▸ Lib.word_lt u3x;have N4:Hid (∀q,Calls Tryz.prog 110 #[.slice (some ⟨bu,ou+24,none⟩) (n2-24) (n2-24)] (wr.drewN q) (fun e w'=>e=.returned (.int .u64 (B3:Int))/\∃z,w'=(wr.drewN q).drewN z)):=zh (fun q=>by rw[<-hB3];exact zdi (HBY3.o.below (zab HBU.o q)) (by have:=HNU3.o;have:=HC32.o;omega) _ _ HNU3.o (Nat.le_refl _));have lo1:B0 ||| B1<18446744073709551616:=Nat.or_lt_two_pow (n:=64) lB0 lB1;have lo2:B2 ||| B3<18446744073709551616:=Nat.or_lt_two_pow (n:=64) lB2 lB3;have lo3:(B0 ||| B1) ||| (B2 ||| B3)<18446744073709551616:=Nat.or_lt_two_pow (n:=64) lo1 lo2;obtain⟨P3,hP3⟩:=nm (orU (orU (B0:Int) (B1:Int)) (orU (B2:Int) (B3:Int)));have KP3:Hid (hiA P3=0->Lib.Asc u 32):=zh (fun h0=>by
              rw[hP3,<-hor,<-hor,<-hor,u64_or_nat B0 B1 lB0 lB1,u64_or_nat B2 B3 lB2 lB3,u64_or_nat _ _ lo1 lo2,<-HI.o,zk2 _ lo3] at h0;obtain⟨e01,e23⟩:=(Lib.or_mask _ _ _).1 (Int.natCast_eq_zero.1 h0);obtain⟨e0,e1⟩:=(Lib.or_mask _ _ _).1 e01;obtain⟨e2,e3⟩:=(Lib.or_mask _ _ _).1 e23;rw[<-hB0] at e0;rw[<-hB1] at e1;rw[<-hB2] at e2;rw[<-hB3] at e3;have s16:Lib.Asc u 16:=Lib.asc_add u 8 8 ((zdz (by have:=HNU.o;have:=HC32.o;omega)).1 e0) (by rw[hu1];exact(zdz (by have:=HNU1.o;have:=HC32.o;omega)).1 e1);have s24:Lib.Asc u 24:=Lib.asc_add u 16 8 s16 (by rw[hu2];exact(zdz (by have:=HNU2.o;have:=HC32.o;omega)).1 e2);exact Lib.asc_add u 24 8 s24 (by rw[hu3];exact(zdz (by have:=HNU3.o;have:=HC32.o;omega)).1 e3))
             have HP3:=zh hP3;clear hP3 lo1 lo2 lo3 lB0 lB1 lB2 lB3 hB0 hB1 hB2 hB3 hu1 hu2 hu3;by_cases hz3:hiA P3=0
             ·have hz3b:(hiA (orU (orU (B0:Int) (B1:Int)) (orU (B2:Int) (B3:Int))) == 0)=true:=by rw[<-HP3.o];simp[hz3]
              have a32:=KP3.o hz3;obtain⟨u4x,hu4⟩:∃u4x,u.extract 32 u.size=u4x:=⟨_,rfl⟩;have HNU4:Hid (n2-32=u4x.size):=zh (by rw[<-hu4,Lib.ext_size,<-HNU.o]);have HV4:Hid (Lib.validD u4x.data.toList=ANS):=zh (by rw[<-hu4,Lib.valid_skip u 32 a32];exact HVU.o);have HB4:Hid (ByIn w bu (ou+32) u4x):=zh (by rw[<-hu4];exact HBY0.o.drop 32);clear hu4 a32;go_wp2_with fail
              go_quiet (first|(with_reducible exact Calls.quiet_of (N1.o _))|(with_reducible exact Calls.quiet_of (N2.o _))|(with_reducible exact Calls.quiet_of (N3.o _))|(with_reducible exact Calls.quiet_of (N4.o _)))
              go_wp2_with fail
              go_roundg g3
              case measure=>omega
              case rel=>exact⟨n2-32,_,rfl,by have:=HGN.o;have:=HC8.o;have:=HG2.o;omega,by have:=HGN.o;have:=HC8.o;have:=HG2.o;omega,zh ⟨zab HBU.o _,u4x,HNU4.o,fun _=>⟨bu,_,rfl,HB4.o⟩,HV4.o⟩⟩
             ·have hz3b:(hiA (orU (orU (B0:Int) (B1:Int)) (orU (B2:Int) (B3:Int))) == 0)=false:=by rw[<-HP3.o];simp[hz3]
              go_wp2_with fail
              go_quiet (first|(with_reducible exact Calls.quiet_of (N1.o _))|(with_reducible exact Calls.quiet_of (N2.o _))|(with_reducible exact Calls.quiet_of (N3.o _))|(with_reducible exact Calls.quiet_of (N4.o _)))
              go_wp2_with fail
              go_roundg g'
              case measure=>omega
              case rel=>exact⟨n2,_,rfl,by have:=HGN.o;have:=HC8.o;have:=HG2.o;omega,by have:=HGN.o;have:=HC8.o;have:=HG2.o;omega,zh ⟨zab HBU.o _,u,HNU.o,fun _=>⟨bu,_,rfl,HBY0.o⟩,HVU.o⟩⟩
            ·have c32z:¬((32:Int)<(n2:Int)):=by omega
             have c32b:decide ((32:Int)<(n2:Int))=false:=decide_eq_false c32z;go_wp2_with fail
             go_quiet (fail)
             go_wp2_with fail
             go_roundg g'
             case measure=>omega
             case rel=>exact⟨n2,_,rfl,by have:=HGN.o;have:=HC8.o;omega,by have:=HGN.o;have:=HC8.o;omega,zh ⟨zab HBU.o _,u,HNU.o,HBO.o,HVU.o⟩⟩
         ·have hz2b:(hiA (orU (A2:Int) (A3:Int)) == 0)=false:=by rw[HO2.o];simp[hz2]
          go_wp2_with fail
          go_quiet (first|(with_reducible exact Calls.quiet_of (N1.o _))|(with_reducible exact Calls.quiet_of (N2.o _)))
          go_wp2_with fail
          go_roundg g'
          case measure=>omega
          case rel=>exact⟨k,_,rfl,by have:=HGN.o;have:=HC8.o;omega,by have:=HGN.o;have:=HC8.o;omega,zh ⟨zab HBW1.o _,t2,HS2.o,fun _=>⟨b,_,rfl,HB2.o⟩,HV2.o⟩⟩
        ·have c16z:¬((16:Int)<(k:Int)):=by omega
         have c16b:decide ((16:Int)<(k:Int))=false:=decide_eq_false c16z;go_wp2_with fail
         go_quiet (fail)
         go_wp2_with fail
         go_roundg g'
         case measure=>omega
         case rel=>exact⟨k,_,rfl,by have:=HGN.o;have:=HC8.o;omega,by have:=HGN.o;have:=HC8.o;omega,zh ⟨zab HBW1.o _,t2,HS2.o,fun _=>⟨b,_,rfl,HB2.o⟩,HV2.o⟩⟩
       ·have hz1b:(hiA (A1:Int) == 0)=false:=by rw[<-HZ1.o];simp[hz1]
        go_wp2_with fail
        go_roundg g'
        case measure=>omega
        case rel=>exact⟨m,_,rfl,by have:=HGN.o;have:=HC8.o;omega,by have:=HGN.o;have:=HC8.o;omega,zh ⟨HBW1.o,t1,HS1.o,fun _=>⟨b,_,rfl,HB1.o⟩,HV1.o⟩⟩
      ·have c8z:¬((8:Int)<(m:Int)):=by omega
       go_wp2_with fail
       go_roundg g'
       case measure=>omega
       case rel=>exact⟨m,_,rfl,by omega,by omega,zh ⟨HBW.o,t1,HS1.o,fun _=>⟨b,_,rfl,HB1.o⟩,HV1.o⟩⟩
   ·have hge:128<=x0.toNat:=by omega
    have hascz:¬((x0.toNat:Int)<128):=by omega
    obtain⟨x1,hx1⟩:∃x1,t.get! 1=x1:=⟨_,rfl⟩;obtain⟨x2,hx2⟩:∃x2,t.get! 2=x2:=⟨_,rfl⟩;obtain⟨x3,hx3⟩:∃x3,t.get! 3=x3:=⟨_,rfl⟩;have l1:=x1.toNat_lt;have l2:=x2.toNat_lt;have l3:=x3.toNat_lt;have hne:t.data.toList≠[]:=fun h=>by have h2:=HNT.o;rw[Lib.size_eq,h] at h2;simp at h2
    have hlead:=Lib.validD_lead t.data.toList hne (by rw[Lib.getD_get!',hx0];exact hge);rw[Lib.getD_get!',Lib.getD_get!',Lib.getD_get!',Lib.getD_get!',hx0,hx1,hx2,hx3,<-Lib.size_eq,<-HNT.o,HV.o] at hlead;have hTr:=Utf8Tabs_below HT.o HBW.o;have hc0:=hTr.1 x0.toNat hx0lt;have hXlt:Lib.firstT x0.toNat<256:=by rcases Lib.firstT_cases x0.toNat with h|h|h|h|h|h|h|h|h <;> omega
    obtain⟨X,hX⟩:∃X,Lib.firstT x0.toNat=X:=⟨_,rfl⟩;rw[hX] at hc0 hXlt hlead;have ha0:wr.cell? ⟨2,X / 16*2,none⟩=some (.int .u8 (Lib.accLo (X / 16))):=by rw[Nat.mul_comm];exact(hTr.2 (X / 16) (by omega)).1
    have ha1:wr.cell? ⟨2,X / 16*2+1,none⟩=some (.int .u8 (Lib.accHi (X / 16))):=by rw[Nat.mul_comm];exact(hTr.2 (X / 16) (by omega)).2
    obtain⟨LO,hLO⟩:∃LO,Lib.accLo (X / 16)=LO:=⟨_,rfl⟩;obtain⟨HI,hHI⟩:∃HI,Lib.accHi (X / 16)=HI:=⟨_,rfl⟩;rw[hLO] at ha0 hlead;rw[hHI] at ha1 hlead;obtain⟨SZ,hSZ⟩:∃SZ,X % 8=SZ:=⟨_,rfl⟩;rw[hSZ] at hlead;obtain⟨f7,hf7⟩:=zqy;have h7:f7 (X:Int)=(SZ:Int):=by rw[<-hf7,<-hSZ];exact zrw ⟨X,hXlt⟩
    have HSZ:=zh hSZ;have HLEAD:=zh hlead;clear hTr hX hLO hHI hne hSZ hlead hx0 hHi;by_cases s2:SZ=2
    ·subst s2
     as_aux_lemma=>
      have hlead:=HLEAD.o;simp only[Lib.checkN,Nat.reduceEqDiff,if_true,if_false] at hlead;have HL:=zh hlead;clear hlead HLEAD
      go_upto_region 18 with fail
      obtain⟨w5,hw5⟩:=nm (wr.alloc (.cells #[.int .u8 LO,.int .u8 HI] 209));have HB5:Hid (Below w.heap.size w w5):=zh (by rw[hw5];exact HBW.o.alloc HBW.o.size _);have bx:BoxN w5 wr.heap.size 209 [.int .u8 LO,.int .u8 HI]:=by rw[hw5];exact BoxN.new wr 209 [.int .u8 LO,.int .u8 HI]
      have bl0:=bx.row 0 _ rfl;have bl1:=bx.row 1 _ rfl;have y1:1<=m->w5.cell? ⟨b,o+1,none⟩=some (.int .u8 (x1.toNat:Int)):=fun hm=>by rw[<-hx1];exact zaa HB5.o (HBY.o 1 (by have:=HNT.o;omega))
      rw[<-hw5];have Y1:=zh y1;clear hw5 bx c0 hc0 ha0 ha1 hx1 hx2 hx3 y1;obtain⟨cd,hcd⟩:=nm (decide (m+1<2\/x1.toNat<LO\/HI<x1.toNat));have HCD:=zh hcd;clear hcd
      go_cut [103] from 85 to 103 (fun c wx=>c=.bool cd/\Hid (Below w.heap.size w wx))
      case first=>
       by_cases q0:m+1<2
       ·have qz0:(m:Int)+1<2:=by omega
        go_quiet (fail)
        go_wp2_with fail;go_meet;exact⟨by rw[HCD.o];exact congrArg Value.bool (decide_eq_true (by omega)).symm,zh (zab HB5.o _)⟩
       ·have qz0:¬((m:Int)+1<2):=by omega
        have y1:=Y1.o (by omega);by_cases q1:x1.toNat<LO
        ·have qz1:(x1.toNat:Int)<(LO:Int):=by omega
         go_quiet (fail)
         go_wp2_with fail;go_meet;exact⟨by rw[HCD.o];exact congrArg Value.bool (decide_eq_true (by omega)).symm,zh (zab HB5.o _)⟩
        ·have qz1:¬((x1.toNat:Int)<(LO:Int)):=by omega
         by_cases q2:HI<x1.toNat
         ·have qz2:(HI:Int)<(x1.toNat:Int):=by omega
          go_quiet (fail)
          go_wp2_with fail;go_meet;exact⟨by rw[HCD.o];exact congrArg Value.bool (decide_eq_true (by omega)).symm,zh (zab HB5.o _)⟩
         ·have qz2:¬((HI:Int)<(x1.toNat:Int)):=by omega
          go_quiet (fail)
          go_wp2_with fail;go_meet;exact⟨by rw[HCD.o];exact congrArg Value.bool (decide_eq_false (by omega)).symm,zh (zab HB5.o _)⟩
      case rest=>
       obtain⟨rfl,HBC⟩:=hcut;by_cases hb:m+1<2\/x1.toNat<LO\/HI<x1.toNat
       ·have hcd:cd=true:=by rw[HCD.o];exact decide_eq_true hb
        have hl:=HL.o;rw[if_pos hb] at hl;have HL2:=zh hl;subst hcd;clear hl hb;go_wp2_with fail;go_ret;exact⟨by rw[HL2.o];rfl,HBC.o⟩
       ·have hcd:cd=false:=by rw[HCD.o];exact decide_eq_false hb
        obtain⟨i,hi⟩:∃i,m+1=i+2:=⟨m+1-2,by omega⟩;have hl:=HL.o;rw[if_neg hb] at hl;have HL2:=zh hl;have HS:Hid (i=(t.extract 2 t.size).size):=zh (by rw[Lib.ext_size,<-HNT.o];omega);subst hcd;clear hl hb;rw[hi];by_cases hi0:i=0
        ·subst hi0;go_wp2_with fail
         go_roundg g'
         case measure=>omega
         case rel=>exact⟨0,_,rfl,by omega,by omega,zh ⟨HBC.o,t.extract 2 t.size,HS.o,(fun h=>absurd h (by have:=HS.o;omega)),(by rw[Lib.ext_list];exact HL2.o.symm)⟩⟩
        ·go_wp2_with fail
         go_roundg g'
         case measure=>omega
         case rel=>exact⟨i,_,rfl,by omega,by omega,zh ⟨HBC.o,t.extract 2 t.size,HS.o,fun _=>⟨b,_,rfl,HBY.o.drop 2⟩,(by rw[Lib.ext_list];exact HL2.o.symm)⟩⟩
    by_cases s3:SZ=3
    ·subst s3
     as_aux_lemma=>
      have hlead:=HLEAD.o;simp only[Lib.checkN,Nat.reduceEqDiff,if_true,if_false] at hlead;have HL:=zh hlead;clear hlead HLEAD
      go_upto_region 22 with fail
      obtain⟨w5,hw5⟩:=nm (wr.alloc (.cells #[.int .u8 LO,.int .u8 HI] 209));have HB5:Hid (Below w.heap.size w w5):=zh (by rw[hw5];exact HBW.o.alloc HBW.o.size _);have bx:BoxN w5 wr.heap.size 209 [.int .u8 LO,.int .u8 HI]:=by rw[hw5];exact BoxN.new wr 209 [.int .u8 LO,.int .u8 HI]
      have bl0:=bx.row 0 _ rfl;have bl1:=bx.row 1 _ rfl;have y1:1<=m->w5.cell? ⟨b,o+1,none⟩=some (.int .u8 (x1.toNat:Int)):=fun hm=>by rw[<-hx1];exact zaa HB5.o (HBY.o 1 (by have:=HNT.o;omega))
      have y2:2<=m->w5.cell? ⟨b,o+2,none⟩=some (.int .u8 (x2.toNat:Int)):=fun hm=>by rw[<-hx2];exact zaa HB5.o (HBY.o 2 (by have:=HNT.o;omega))
      rw[<-hw5];have Y1:=zh y1;have Y2:=zh y2;clear hw5 bx c0 hc0 ha0 ha1 hx1 hx2 hx3 y1 y2;obtain⟨cd,hcd⟩:=nm (decide (m+1<3\/x1.toNat<LO\/HI<x1.toNat\/x2.toNat<128\/191<x2.toNat));have HCD:=zh hcd;clear hcd
      go_cut [138] from 108 to 138 (fun c wx=>c=.bool cd/\Hid (Below w.heap.size w wx))
      case first=>
       by_cases q0:m+1<3
       ·have qz0:(m:Int)+1<3:=by omega
        go_quiet (fail)
        go_wp2_with fail;go_meet;exact⟨by rw[HCD.o];exact congrArg Value.bool (decide_eq_true (by omega)).symm,zh (zab HB5.o _)⟩
       ·have qz0:¬((m:Int)+1<3):=by omega
        have y1:=Y1.o (by omega);have y2:=Y2.o (by omega);by_cases q1:x1.toNat<LO
        ·have qz1:(x1.toNat:Int)<(LO:Int):=by omega
         go_quiet (fail)
         go_wp2_with fail;go_meet;exact⟨by rw[HCD.o];exact congrArg Value.bool (decide_eq_true (by omega)).symm,zh (zab HB5.o _)⟩
        ·have qz1:¬((x1.toNat:Int)<(LO:Int)):=by omega
         by_cases q2:HI<x1.toNat
         ·have qz2:(HI:Int)<(x1.toNat:Int):=by omega
          go_quiet (fail)
          go_wp2_with fail;go_meet;exact⟨by rw[HCD.o];exact congrArg Value.bool (decide_eq_true (by omega)).symm,zh (zab HB5.o _)⟩
         ·have qz2:¬((HI:Int)<(x1.toNat:Int)):=by omega
          by_cases q3:x2.toNat<128
          ·have qz3:(x2.toNat:Int)<128:=by omega
           go_quiet (fail)
           go_wp2_with fail;go_meet;exact⟨by rw[HCD.o];exact congrArg Value.bool (decide_eq_true (by omega)).symm,zh (zab HB5.o _)⟩
          ·have qz3:¬((x2.toNat:Int)<128):=by omega
           by_cases q4:191<x2.toNat
           ·have qz4:(191:Int)<(x2.toNat:Int):=by omega
            go_quiet (fail)
            go_wp2_with fail;go_meet;exact⟨by rw[HCD.o];exact congrArg Value.bool (decide_eq_true (by omega)).symm,zh (zab HB5.o _)⟩
           ·have qz4:¬((191:Int)<(x2.toNat:Int)):=by omega
            go_quiet (fail)
            go_wp2_with fail;go_meet;exact⟨by rw[HCD.o];exact congrArg Value.bool (decide_eq_false (by omega)).symm,zh (zab HB5.o _)⟩
      case rest=>
       obtain⟨rfl,HBC⟩:=hcut;by_cases hb:m+1<3\/x1.toNat<LO\/HI<x1.toNat\/x2.toNat<128\/191<x2.toNat
       ·have hcd:cd=true:=by rw[HCD.o];exact decide_eq_true hb
        have hl:=HL.o;rw[if_pos hb] at hl;have HL2:=zh hl;subst hcd;clear hl hb;go_wp2_with fail;go_ret;exact⟨by rw[HL2.o];rfl,HBC.o⟩
       ·have hcd:cd=false:=by rw[HCD.o];exact decide_eq_false hb
        obtain⟨i,hi⟩:∃i,m+1=i+3:=⟨m+1-3,by omega⟩;have hl:=HL.o;rw[if_neg hb] at hl;have HL2:=zh hl;have HS:Hid (i=(t.extract 3 t.size).size):=zh (by rw[Lib.ext_size,<-HNT.o];omega);subst hcd;clear hl hb;rw[hi];by_cases hi0:i=0
        ·subst hi0;go_wp2_with fail
         go_roundg g'
         case measure=>omega
         case rel=>exact⟨0,_,rfl,by omega,by omega,zh ⟨HBC.o,t.extract 3 t.size,HS.o,(fun h=>absurd h (by have:=HS.o;omega)),(by rw[Lib.ext_list];exact HL2.o.symm)⟩⟩
        ·go_wp2_with fail
         go_roundg g'
         case measure=>omega
         case rel=>exact⟨i,_,rfl,by omega,by omega,zh ⟨HBC.o,t.extract 3 t.size,HS.o,fun _=>⟨b,_,rfl,HBY.o.drop 3⟩,(by rw[Lib.ext_list];exact HL2.o.symm)⟩⟩
    by_cases s4:SZ=4
    ·subst s4
     as_aux_lemma=>
      have hlead:=HLEAD.o;simp only[Lib.checkN,Nat.reduceEqDiff,if_true,if_false] at hlead;have HL:=zh hlead;clear hlead HLEAD
      go_upto_region 26 with fail
      obtain⟨w5,hw5⟩:=nm (wr.alloc (.cells #[.int .u8 LO,.int .u8 HI] 209));have HB5:Hid (Below w.heap.size w w5):=zh (by rw[hw5];exact HBW.o.alloc HBW.o.size _);have bx:BoxN w5 wr.heap.size 209 [.int .u8 LO,.int .u8 HI]:=by rw[hw5];exact BoxN.new wr 209 [.int .u8 LO,.int .u8 HI]
      have bl0:=bx.row 0 _ rfl;have bl1:=bx.row 1 _ rfl;have y1:1<=m->w5.cell? ⟨b,o+1,none⟩=some (.int .u8 (x1.toNat:Int)):=fun hm=>by rw[<-hx1];exact zaa HB5.o (HBY.o 1 (by have:=HNT.o;omega))
      have y2:2<=m->w5.cell? ⟨b,o+2,none⟩=some (.int .u8 (x2.toNat:Int)):=fun hm=>by rw[<-hx2];exact zaa HB5.o (HBY.o 2 (by have:=HNT.o;omega))
      have y3:3<=m->w5.cell? ⟨b,o+3,none⟩=some (.int .u8 (x3.toNat:Int)):=fun hm=>by rw[<-hx3];exact zaa HB5.o (HBY.o 3 (by have:=HNT.o;omega))
      rw[<-hw5];have Y1:=zh y1;have Y2:=zh y2;have Y3:=zh y3;clear hw5 bx c0 hc0 ha0 ha1 hx1 hx2 hx3 y1 y2 y3;obtain⟨cd,hcd⟩:=nm (decide (m+1<4\/x1.toNat<LO\/HI<x1.toNat\/x2.toNat<128\/191<x2.toNat\/x3.toNat<128\/191<x3.toNat));have HCD:=zh hcd;clear hcd
      go_cut [185] from 143 to 185 (fun c wx=>c=.bool cd/\Hid (Below w.heap.size w wx))
      case first=>
       by_cases q0:m+1<4
       ·have qz0:(m:Int)+1<4:=by omega
        go_quiet (fail)
        go_wp2_with fail;go_meet;exact⟨by rw[HCD.o];exact congrArg Value.bool (decide_eq_true (by omega)).symm,zh (zab HB5.o _)⟩
       ·have qz0:¬((m:Int)+1<4):=by omega
        have y1:=Y1.o (by omega);have y2:=Y2.o (by omega);have y3:=Y3.o (by omega);by_cases q1:x1.toNat<LO
        ·have qz1:(x1.toNat:Int)<(LO:Int):=by omega
         go_quiet (fail)
         go_wp2_with fail;go_meet;exact⟨by rw[HCD.o];exact congrArg Value.bool (decide_eq_true (by omega)).symm,zh (zab HB5.o _)⟩
        ·have qz1:¬((x1.toNat:Int)<(LO:Int)):=by omega
         by_cases q2:HI<x1.toNat
         ·have qz2:(HI:Int)<(x1.toNat:Int):=by omega
          go_quiet (fail)
          go_wp2_with fail;go_meet;exact⟨by rw[HCD.o];exact congrArg Value.bool (decide_eq_true (by omega)).symm,zh (zab HB5.o _)⟩
         ·have qz2:¬((HI:Int)<(x1.toNat:Int)):=by omega
          by_cases q3:x2.toNat<128
          ·have qz3:(x2.toNat:Int)<128:=by omega
           go_quiet (fail)
           go_wp2_with fail;go_meet;exact⟨by rw[HCD.o];exact congrArg Value.bool (decide_eq_true (by omega)).symm,zh (zab HB5.o _)⟩
          ·have qz3:¬((x2.toNat:Int)<128):=by omega
           by_cases q4:191<x2.toNat
           ·have qz4:(191:Int)<(x2.toNat:Int):=by omega
            go_quiet (fail)
            go_wp2_with fail;go_meet;exact⟨by rw[HCD.o];exact congrArg Value.bool (decide_eq_true (by omega)).symm,zh (zab HB5.o _)⟩
           ·have qz4:¬((191:Int)<(x2.toNat:Int)):=by omega
            by_cases q5:x3.toNat<128
            ·have qz5:(x3.toNat:Int)<128:=by omega
             go_quiet (fail)
             go_wp2_with fail;go_meet;exact⟨by rw[HCD.o];exact congrArg Value.bool (decide_eq_true (by omega)).symm,zh (zab HB5.o _)⟩
            ·have qz5:¬((x3.toNat:Int)<128):=by omega
             by_cases q6:191<x3.toNat
             ·have qz6:(191:Int)<(x3.toNat:Int):=by omega
              go_quiet (fail)
              go_wp2_with fail;go_meet;exact⟨by rw[HCD.o];exact congrArg Value.bool (decide_eq_true (by omega)).symm,zh (zab HB5.o _)⟩
             ·have qz6:¬((191:Int)<(x3.toNat:Int)):=by omega
              go_quiet (fail)
              go_wp2_with fail;go_meet;exact⟨by rw[HCD.o];exact congrArg Value.bool (decide_eq_false (by omega)).symm,zh (zab HB5.o _)⟩
      case rest=>
       obtain⟨rfl,HBC⟩:=hcut;by_cases hb:m+1<4\/x1.toNat<LO\/HI<x1.toNat\/x2.toNat<128\/191<x2.toNat\/x3.toNat<128\/191<x3.toNat
       ·have hcd:cd=true:=by rw[HCD.o];exact decide_eq_true hb
        have hl:=HL.o;rw[if_pos hb] at hl;have HL2:=zh hl;subst hcd;clear hl hb;go_wp2_with fail;go_ret;exact⟨by rw[HL2.o];rfl,HBC.o⟩
       ·have hcd:cd=false:=by rw[HCD.o];exact decide_eq_false hb
        obtain⟨i,hi⟩:∃i,m+1=i+4:=⟨m+1-4,by omega⟩;have hl:=HL.o;rw[if_neg hb] at hl;have HL2:=zh hl;have HS:Hid (i=(t.extract 4 t.size).size):=zh (by rw[Lib.ext_size,<-HNT.o];omega);subst hcd;clear hl hb;rw[hi];by_cases hi0:i=0
        ·subst hi0;go_wp2_with fail
         go_roundg g'
         case measure=>omega
         case rel=>exact⟨0,_,rfl,by omega,by omega,zh ⟨HBC.o,t.extract 4 t.size,HS.o,(fun h=>absurd h (by have:=HS.o;omega)),(by rw[Lib.ext_list];exact HL2.o.symm)⟩⟩
        ·go_wp2_with fail
         go_roundg g'
         case measure=>omega
         case rel=>exact⟨i,_,rfl,by omega,by omega,zh ⟨HBC.o,t.extract 4 t.size,HS.o,fun _=>⟨b,_,rfl,HBY.o.drop 4⟩,(by rw[Lib.ext_list];exact HL2.o.symm)⟩⟩
    have hlead:=HLEAD.o;simp only[Lib.checkN,s2,s3,s4,if_false] at hlead;have HL:=zh hlead;obtain⟨z,hz⟩:∃z:Int,z=(SZ:Int):=⟨_,rfl⟩;rw[<-hz] at h7;have hz0:0<=z:=by omega
    have hz7:z<=7:=by have:=HSZ.o;omega
    have e2b:(z == 2)=false:=by simp;omega
    have e3b:(z == 3)=false:=by simp;omega
    have e4b:(z == 4)=false:=by simp;omega
    clear hlead HLEAD hz s2 s3 s4;go_wp2_with fail;go_ret;exact⟨by rw[HL.o];rfl,HBW.o.alloc HBW.o.size _⟩
end Go.Fld
