import Derived.Test.YthocbeghnkacnaaGreatDoorT28
import Derived.Lib.EndianBits
set_option linter.unusedVariables false
set_option linter.unusedSimpArgs false
set_option linter.unnecessarySimpa false
set_option maxRecDepth 100000
set_option maxHeartbeats 16000000
namespace Go.Fld
open Go Go.RowKit Go.Proofs Go.ChangeShapes Go.WideShapes Go.ChangeAt Go.Shelf
theorem zig {x hh lo cc y P:Nat}(h:x+4294967296*hh=lo+cc+y):x*P+hh*(4294967296*P)=lo*P+cc*P+y*P:=by
 have e:hh*(4294967296*P)=4294967296*hh*P:=by rw[<-Nat.mul_assoc,Nat.mul_comm hh]
 rw[e,<-Nat.add_mul,h,Nat.add_mul,Nat.add_mul]
theorem zls {x cc y:Nat}(hx:x<4294967296)(hy:y<4294967296)(hc:cc<=1):∃d1 d2 lo hh:Nat,(IntKind.u64.wrap ((x:Int)-(cc:Int))=(d1:Int)/\IntKind.u64.wrap ((d1:Int)-(y:Int))=(d2:Int)/\(d2:Int) % 4294967296=(lo:Int)/\(d2:Int) / 9223372036854775808=(hh:Int))/\lo<4294967296/\hh<=1/\x+4294967296*hh=lo+cc+y:=by
 simp only[IntKind.wrap_u64];refine⟨(((x:Int)-(cc:Int)) % 18446744073709551616).toNat,(((x:Int)-(cc:Int)-(y:Int)) % 18446744073709551616).toNat,(((x:Int)-(cc:Int)-(y:Int)) % 4294967296).toNat,if x<cc+y then 1 else 0,⟨by omega,by omega,by omega,?_⟩,by omega,?_,?_⟩
 ·split <;> omega
 ·split <;> omega
 ·split <;> omega
theorem zkc {w:World}{l m:List Nat}{p q:Option Addr}{n k c d:Nat}(hl:M.At (fun _=>True) w (zaV l) (.slice p n c))(hm:M.At (fun _=>True) w (zaV m) (.slice q k d))(hcl:za3 l)(hcm:za3 m)(hkn:k<=n)(hn4:n<=1000)(hge:zag m<=zag l) :
  Calls Tryz.prog 164 #[.slice p n c,.slice q k d] w (zcC w (zag l-zag m)):=by
 obtain⟨hn,hc1,hc2⟩:=zba hl;obtain⟨hk,hd1,hd2⟩:=zba hm;have HL:=zh hl;have HM:=zh hm;have HN:=zh hn;have HK:=zh hk;have HCL:=zh hcl;have HCM:=zh hcm;have HGE:=zh hge;have hmk:∀W:World,(Instr.makeSlice 91 (.int .i64 (n:Int)) (.int .i64 (n:Int))).run Tryz.prog W=.ok (.slice (some ⟨W.heap.size,0,none⟩) n n) (W.alloc (.cells (zdY n) 195)):=fun W=>zeC W n (by omega);clear hl hm hn hk hcl hcm hge
 go_in
 go_wp2_with fail;clear hmk;obtain⟨W3,hW3⟩:=nm (w.alloc (.cells (zdY n) 195));obtain⟨ub,hub⟩:=nm (w.heap.size);have HU:Hid (MakeW W3 ub n 0 (List.replicate n 0)):=zh (by rw[hW3,hub];exact MakeW.new w n);have HB3:Hid (Below w.heap.size w W3):=zh (by rw[hW3];exact(Below.refl _ w).alloc (Nat.le_refl _) _);have HUB:=zh hub;rw[<-hW3,<-hub];clear hW3 hub
 go_loopw [6,7] (fun cv iv wr=>∃(i cc:Nat) (rl:List Nat),i<=n/\cc<=1/\cv=.int .u64 (cc:Int)/\iv=.int .i64 (i:Int)/\Hid (MakeW wr ub n i rl)/\Hid (Below w.heap.size w wr)/\Hid (zag rl+zag (m.take i)=zag (l.take i)+cc*2 ^ (32*i))) (fun _ iv _=>n-(intOf iv).toNat)
 case atStart=>exact⟨0,0,_,by omega,by omega,rfl,rfl,HU,HB3,zh (by rw[List.take_zero,List.take_zero,zdW];rfl)⟩
 case round=>
  obtain⟨i,cc,rl,hi,hcc,rfl,rfl,HM1,HB,HV⟩:=hrel;by_cases hlt:i<n
  ·have hil:i<l.length:=by have:=HN.o;omega
   obtain⟨b1,o1,rfl,-,s0⟩:=zbq (M.At.below HB.o HL.o) i hil;have hx:=HCL.o _ (List.getElem_mem hil);have HTL:=zh (zcV hil);have z0:=(HM1.o.1).frozen i;have u0:=HM1.o.get hlt;have hlu:=(HM1.o.1).lt;generalize l[i]=x at *;by_cases hik:i<k
   ·have him:i<m.length:=by have:=HK.o;omega
    obtain⟨b2,o2,rfl,-,t0⟩:=zbq (M.At.below HB.o HM.o) i him;have hy:=HCM.o _ (List.getElem_mem him);have HTM:=zh (zcV him);generalize m[i]=y at *;obtain⟨d1,d2,lo,hh,⟨e1,e2,e3,e4⟩,hlo,hhi,hstep⟩:=zls hx hy hcc;have HST:=zh hstep;have HPUT:=zh (HM1.o.put hlt hlo);have hxI:(x:Int)<4294967296:=by omega
    have hyI:(y:Int)<4294967296:=by omega
    have hd1I:(d1:Int)<18446744073709551616:=by rw[<-e1,IntKind.wrap_u64];omega
    have hd2I:(d2:Int)<18446744073709551616:=by rw[<-e2,IntKind.wrap_u64];omega
    clear hx hy hlo HM1 hstep;go_wp2_with fail;go_roundw
    case rel=>
     refine⟨i+1,hh,_,by omega,hhi,rfl,by go_num,zh HPUT.o.1,zh (zbl HB.o (by have:=HUB.o;omega) _),zh ?_⟩;rw[HPUT.o.2,HTL.o,HTM.o,zd7];have h1:=zig (P:=2 ^ (32*i)) HST.o;have h2:=HV.o;omega
    case measure=>simp[intOf];omega
   ·have HTM:=zh (zhy (l:=m) (i:=i) (by have:=HK.o;omega));obtain⟨d1,d2,lo,hh,⟨e1,e2,e3,e4⟩,hlo,hhi,hstep⟩:=zls (y:=0) hx (by decide) hcc;have e5:d2=d1:=by rw[IntKind.wrap_u64] at e1 e2;omega
    subst e5;have HST:=zh hstep;have HPUT:=zh (HM1.o.put hlt hlo);have hxI:(x:Int)<4294967296:=by omega
    have hd1I:(d2:Int)<18446744073709551616:=by rw[<-e1,IntKind.wrap_u64];omega
    clear hx hlo HM1 hstep e2;go_wp2_with fail;go_roundw
    case rel=>
     refine⟨i+1,hh,_,by omega,hhi,rfl,by go_num,zh HPUT.o.1,zh (zbl HB.o (by have:=HUB.o;omega) _),zh ?_⟩;rw[HPUT.o.2,HTL.o,HTM.o,zd7];have h1:=zig (P:=2 ^ (32*i)) HST.o;have h2:=HV.o;omega
    case measure=>simp[intOf];omega
  ·obtain rfl:i=n:=by omega
   have HV2:Hid (zag rl=zag l-zag m):=zh (by
    have h2:=HV.o;have h3:=HM1.o.val_lt;have h4:=HGE.o;rw[List.take_of_length_le (l:=l) (by rw[<-HN.o];exact Nat.le_refl _),List.take_of_length_le (l:=m) (by rw[<-HK.o];exact hkn)] at h2;have hc0:cc=0:=by
     rcases Nat.lt_or_ge 0 cc with h|h
     ·have:cc=1:=by omega
      subst this;omega
     ·omega
    subst hc0;omega)
   have HTC:=zh (zdX (HM1.o.words (S:=fun b=>w.heap.size<=b) (by have:=HUB.o;omega) (by omega)));have HSM:=zh HM1.o.2.2.1;clear hlt;go_wp2_with fail;refine HTC.o.mono ?_;rintro e W5 ⟨hb5,q5,c5,rfl,hat⟩;have HB5:=zh (HB.o.trans (hb5.mono HB.o.size));have HAT:=zh hat;clear hb5 hat;go_wp2_with fail;rw[<-HV2.o];go_ret;exact⟨HB5.o,_,q5,c5,rfl,HAT.o,zdp HSM.o,zem _⟩
theorem zlt:∀ {l:List Nat} {i y:Nat} (x:Nat),l[i]?=some y->zag (l.set i x)+y*2 ^ (32*i)=zag l+x*2 ^ (32*i)
 | [],i,y,x,h=>by simp at h
 | z :: r,0,y,x,h=>by
  have:z=y:=by simpa using h
  subst this;simp[zag];omega
 | z :: r,i+1,y,x,h=>by
  have ih:=zlt (l:=r) (i:=i) x (by simpa using h);rw[List.set_cons_succ,zag,zag,zd7];have e:∀u:Nat,u*(4294967296*2 ^ (32*i))=4294967296*(u*2 ^ (32*i)):=fun u=>by rw[<-Nat.mul_assoc,Nat.mul_comm u,Nat.mul_assoc]
  rw[e,e];omega
theorem zrb {i:Nat}(hi:i<=32){y x:Int}(h0:0<=y)(h1:y<2 ^ i)(h2:0<=x)(h3:x % 2 ^ i=0)(h4:x<4294967296):bits .or .u32 y x=y+x:=by
 have hp:(2:Int) ^ i<=2 ^ 32:=by exact_mod_cast Nat.pow_le_pow_right (show 0<2 by decide) hi
 exact bits_join_low .u32 32 (by decide) (fun n a b=>wraps_u32 n a b) i y x h0 h1 (by omega) h2 h3 (by omega)
theorem zoG {x y s:Nat}(hx:x<4294967296)(hs:s<32)(hy:y<2 ^ s):∃z hh:Nat,bits .or .u32 (y:Int) (IntKind.u64.wrap ((x:Int)*2 ^ s) % 4294967296)=(z:Int)/\bits .or .u32 0 (IntKind.u64.wrap ((x:Int)*2 ^ s) / 4294967296 % 4294967296)=(hh:Int)/\z<4294967296/\hh<2 ^ s/\hh<4294967296/\z+4294967296*hh=y+x*2 ^ s:=by
 obtain⟨P,hP⟩:=nm (2 ^ s);obtain⟨R,hR⟩:=nm (2 ^ (32-s));have hPR:P*R=4294967296:=by rw[hP,hR,<-Nat.pow_add,show s+(32-s)=32 by omega]
 have hP0:0<P:=by rw[hP];exact Nat.pow_pos (by decide)
 have hPle:P<=4294967296:=by rw[hP];exact Nat.le_trans (Nat.pow_le_pow_right (by decide) (show s<=32 by omega)) (by decide)
 have hcast:((2:Int) ^ s)=(P:Int):=by rw[hP];push_cast;rfl
 obtain⟨V,hV⟩:=nm (x*P);have hVlt:V<4294967296*P:=by rw[hV];exact Nat.mul_lt_mul_of_pos_right hx hP0
 have hVI:(x:Int)*(P:Int)=(V:Int):=by rw[hV];push_cast;rfl
 have hw:IntKind.u64.wrap ((x:Int)*2 ^ s)=(V:Int):=by
  rw[hcast,hVI,IntKind.wrap_u64];have:V<4294967296*4294967296:=Nat.lt_of_lt_of_le hVlt (Nat.mul_le_mul_left _ hPle);omega
 have hdvd:V % 4294967296 % P=0:=by
  rw[<-hPR,Nat.mod_mul_right_mod,hV];exact Nat.mul_mod_left _ _
 have hlo:V % 4294967296+P<=4294967296:=by
  obtain⟨q,hq⟩:=Nat.dvd_of_mod_eq_zero hdvd;have h1:P*q<P*R:=by rw[<-hq,hPR];exact Nat.mod_lt _ (by decide)
  have h2:q+1<=R:=Nat.lt_of_mul_lt_mul_left h1;have h3:P*(q+1)<=P*R:=Nat.mul_le_mul_left _ h2;rw[Nat.mul_add,Nat.mul_one,hPR] at h3;omega
 have hhi:V / 4294967296<P:=Nat.div_lt_of_lt_mul hVlt;rw[<-hP] at hy ⊢;have hmodI:(V:Int) % 4294967296=((V % 4294967296:Nat):Int):=by omega
 have hdivI:(V:Int) / 4294967296 % 4294967296=((V / 4294967296:Nat):Int):=by omega
 refine⟨y+V % 4294967296,V / 4294967296,?_,?_,by omega,hhi,by omega,by rw[<-hV];omega⟩
 ·rw[hw,hmodI,zrb (i:=s) (by omega) (by omega) (by rw[hcast];omega) (by omega) (by rw[hcast];exact_mod_cast hdvd) (by omega)];omega
 ·rw[hw,hdivI,zrb (i:=0) (by omega) (by omega) (by decide) (by omega) (by simp) (by omega)];omega
theorem zoH {z hh y x s w0 i sh:Nat}(h:z+4294967296*hh=y+x*2 ^ s)(hsh:sh=32*w0+s):z*2 ^ (32*(i+w0))+hh*2 ^ (32*(i+w0+1))=y*2 ^ (32*(i+w0))+x*2 ^ (32*i)*2 ^ sh:=by
 rw[zd7,hsh];have e:x*2 ^ (32*i)*2 ^ (32*w0+s)=x*2 ^ s*2 ^ (32*(i+w0)):=by
  rw[Nat.pow_add,Nat.mul_add,Nat.pow_add];generalize 2 ^ (32*i)=A;generalize 2 ^ (32*w0)=B;generalize 2 ^ s=C;rw[Nat.mul_assoc,Nat.mul_assoc x C,Nat.mul_comm A,Nat.mul_comm B C,Nat.mul_assoc C,Nat.mul_comm B A]
 have e2:hh*(4294967296*2 ^ (32*(i+w0)))=4294967296*hh*2 ^ (32*(i+w0)):=by rw[<-Nat.mul_assoc,Nat.mul_comm hh]
 rw[e,e2,<-Nat.add_mul,<-Nat.add_mul,h]
theorem znA {w:World}{l:List Nat}{p:Option Addr}{n c:Nat}(hl:M.At (fun _=>True) w (zaV l) (.slice p n c))(hcl:za3 l)(hn4:n<=1000)(sh:Nat)(hsh:sh<=10000) :
  Calls Tryz.prog 155 #[.slice p n c,.int .u64 (sh:Int)] w (zcC w (zag l*2 ^ sh)):=by
 obtain⟨hn,hc1,hc2⟩:=zba hl;have HL:=zh hl;have HN:=zh hn;have HCL:=zh hcl;clear hl hn hcl;by_cases hz:n=0
 ·have HE:=zh (show l=[] from List.eq_nil_of_length_eq_zero (by have:=HN.o;omega));have hb:((n:Int) == 0)=true:=by simp;omega
  go_in
  go_wp2_with fail;rw[HE.o];go_ret;exact⟨Below.refl _ _,[],none,0,rfl,M.At.nil _ _ 1,⟨fun x hx=>(by cases hx),by simp⟩,by simp[zag]⟩
 ·have hb:((n:Int) == 0)=false:=by simp;omega
  obtain⟨w0,hw0⟩:=nm (sh / 32);obtain⟨s,hs⟩:=nm (sh % 32);have e1:(sh:Int) / 32=w0:=by omega
  have e2:(sh:Int) % 32=s:=by omega
  have hs32:s<32:=by omega
  have hw4:w0<=400:=by omega
  have HSH:Hid (sh=32*w0+s):=zh (by omega);obtain⟨N1,hN1⟩:=nm (n+w0+1);have hmk:∀W:World,(Instr.makeSlice 91 (.int .i64 ((n:Int)+w0+1)) (.int .i64 ((n:Int)+w0+1))).run Tryz.prog W=.ok (.slice (some ⟨W.heap.size,0,none⟩) N1 N1) (W.alloc (.cells (zdY N1) 195)):=fun W=>by
   have:=zeC W N1 (by omega);rw[show(N1:Int)=(n:Int)+w0+1 by omega] at this;exact this
  have hN4:N1<=1500:=by omega
  have HN1:=zh hN1;have hnN:n+w0<N1:=by omega
  clear hw0 hs hN1
  go_in
  go_wp2_with fail;clear hmk;obtain⟨W3,hW3⟩:=nm (w.alloc (.cells (zdY N1) 195));obtain⟨ub,hub⟩:=nm (w.heap.size);have HU:Hid (MakeW W3 ub N1 0 (List.replicate N1 0)):=zh (by rw[hW3,hub];exact MakeW.new w N1);have HB3:Hid (Below w.heap.size w W3):=zh (by rw[hW3];exact(Below.refl _ w).alloc (Nat.le_refl _) _);have HUB:=zh hub;rw[<-hW3,<-hub,e2];clear hW3 hub;have E1:=zh e1;have E2:=zh e2;clear e1 e2 hb
  go_loopw [8] (fun iv wr=>∃(i y:Nat) (rl:List Nat),i<=n/\iv=.int .i64 (i:Int)/\Hid (MakeW wr ub N1 (i+w0+1) rl/\rl[i+w0]?=some y/\y<2 ^ s)/\Hid (Below w.heap.size w wr)/\Hid (zag rl=zag (l.take i)*2 ^ sh)) (fun iv _=>n-(intOf iv).toNat)
  case atStart=>exact⟨0,0,List.replicate N1 0,by omega,rfl,zh ⟨⟨HU.o.1,HU.o.2.1,HU.o.2.2.1,fun j hj hjn=>HU.o.2.2.2 j (Nat.zero_le _) hjn⟩,by rw[List.getElem?_replicate,if_pos (by omega)],Nat.pow_pos (by decide)⟩,HB3,zh (by rw[zdW,List.take_zero];simp[zag])⟩
  case round=>
   obtain⟨i,y,rl,hi,rfl,HM1,HB,HV⟩:=hrel;by_cases hlt:i<n
   ·have hil:i<l.length:=by have:=HN.o;omega
    obtain⟨b1,o1,rfl,-,s0⟩:=zbq (M.At.below HB.o HL.o) i hil;have hx:=HCL.o _ (List.getElem_mem hil);have HTL:=zh (zcV hil);obtain⟨hm1,hm2,hm3⟩:=HM1.o;have z0:=hm1.1.frozen (i+w0);have z1:=hm1.1.frozen (i+w0+1);have u0:wr.cell? ⟨ub,i+w0,none⟩=some (.int .u32 (y:Int)):=by
     have:=BoxN.row hm1.1 (i+w0) (.int .u32 (y:Int)) (by rw[List.getElem?_map,hm2];rfl);simpa using this
    have u1:=hm1.get (show i+w0+1<N1 by omega);have hlu:=hm1.1.lt;generalize l[i]=x at *;have hxI:(x:Int)<4294967296:=by omega
    have hy:y<4294967296:=Nat.lt_of_lt_of_le hm3 (Nat.le_trans (Nat.pow_le_pow_right (by decide) (show s<=32 by omega)) (by decide));have hyI:(y:Int)<4294967296:=by omega
    obtain⟨z,hh,q1,q2,hz1,hh1,hh2,hst⟩:=zoG hx hs32 hm3;have HST:=zh hst;have HQ1:=zh q1;have HQ2:=zh q2;have HM2:=zh hm2;have HMK:Hid (MakeW ((wr.setCell ⟨ub,i+w0,none⟩ (.int .u32 (z:Int))).setCell ⟨ub,i+w0+1,none⟩ (.int .u32 (hh:Int))) ub N1 (i+1+w0+1) ((rl.set (i+w0) z).set (i+w0+1) hh)/\((rl.set (i+w0) z).set (i+w0+1) hh)[i+1+w0]?=some hh/\hh<2 ^ s):=zh (by
     have hlen:=hm1.2.1;have hp:MakeW (wr.setCell ⟨ub,i+w0,none⟩ (.int .u32 (z:Int))) ub N1 (i+w0+1) (rl.set (i+w0) z):=by
      obtain⟨g1,g2,g3,g4⟩:=hm1;refine⟨?_,by rw[List.length_set];exact g2,zi7 g3 _ hz1,fun j hj hjn=>?_⟩
      ·have:=g1.set (i+w0) (.int .u32 (z:Int));rw[List.map_set];exact this
      ·rw[List.getElem?_set_ne (by omega)];exact g4 j hj hjn
     refine⟨?_,?_,hh1⟩
     ·rw[show i+1+w0+1=i+w0+1+1 by omega];exact(hp.put (show i+w0+1<N1 by omega) hh2).1
     ·rw[show i+1+w0=i+w0+1 by omega,List.getElem?_set_self (by rw[List.length_set,hlen];omega)])
    have HVV:Hid (zag ((rl.set (i+w0) z).set (i+w0+1) hh)=zag rl+x*2 ^ (32*i)*2 ^ sh):=zh (by
     have h1:=zlt z hm2;have h2:=ziF (l:=rl.set (i+w0) z) hh (by rw[List.getElem?_set_ne (show i+w0≠i+w0+1 by omega)];exact hm1.2.2.2 (i+w0+1) (Nat.le_refl _) (by omega));have h3:=zoH (i:=i) hst HSH.o;rw[h2];omega)
    clear hx hy hm1 hm2 hm3 hst q1 q2 hz1 hh1 hh2 HM1;go_wp2_with fail;rw[HQ1.o,HQ2.o];go_roundw
    case rel=>
     refine⟨i+1,hh,_,by omega,by go_num,zh HMK.o,zh (zbl (zbl HB.o (by have:=HUB.o;omega) _) (by have:=HUB.o;omega) _),zh ?_⟩;rw[HVV.o,HV.o,HTL.o,Nat.add_mul]
    case measure=>simp[intOf];omega
   ·obtain rfl:i=n:=by omega
    have HV2:Hid (zag rl=zag l*2 ^ sh):=zh (by
     have h2:=HV.o
     rwa [List.take_of_length_le (l:=l) (by rw[<-HN.o];exact Nat.le_refl _)] at h2)
    have HTC:=zh (zdX (HM1.o.1.words (S:=fun b=>w.heap.size<=b) (by have:=HUB.o;omega) (by omega)));have HSM:=zh HM1.o.1.2.2.1;clear hlt;go_wp2_with fail;refine HTC.o.mono ?_;rintro e W5 ⟨hb5,q5,c5,rfl,hat⟩;have HB5:=zh (HB.o.trans (hb5.mono HB.o.size));have HAT:=zh hat;clear hb5 hat;go_wp2_with fail;rw[<-HV2.o];go_ret;exact⟨HB5.o,_,q5,c5,rfl,HAT.o,zdp HSM.o,zem _⟩
end Go.Fld
