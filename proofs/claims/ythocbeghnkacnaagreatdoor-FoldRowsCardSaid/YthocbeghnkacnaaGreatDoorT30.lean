import Derived.Test.YthocbeghnkacnaaGreatDoorT26
import Derived.Test.YthocbeghnkacnaaGreatDoorT29
import Derived.Deep.AppendSrc
import Derived.Laws.AppendOwnNone
import Derived.Maps.AppendAt
import Derived.Maps.OwnSet
set_option linter.unusedVariables false
set_option linter.unusedSimpArgs false
set_option linter.unnecessarySimpa false
set_option maxRecDepth 100000
set_option maxHeartbeats 16000000
namespace Go.Fld
open Go Go.RowKit Go.Proofs Go.ChangeShapes Go.WideShapes Go.ChangeAt Go.Shelf
theorem zhz {l:List Nat}(h:za3 l)(k:Nat)(hk:k<=l.length):zag l / 2 ^ (32*k)=zag (l.drop k):=by
 have e:zag l=zag (l.take k)+2 ^ (32*k)*zag (l.drop k):=by
  conv=>lhs;rw[<-List.take_append_drop k l]
  rw[zeV,List.length_take,Nat.min_eq_left hk]
 have h1:=zdV (ze7 h k);rw[List.length_take,Nat.min_eq_left hk] at h1;rw[e,Nat.add_mul_div_left _ _ (Nat.pow_pos (by decide)),Nat.div_eq_of_lt h1,Nat.zero_add]
theorem zih {l:List Nat}(h:za3 l)(i:Nat):za3 (l.drop i):=fun y hy=>h y (List.mem_of_mem_drop hy)
theorem zoI {x y R s:Nat}(hs:s<32):(x+4294967296*(y+4294967296*R)) / 2 ^ s % 4294967296=(x+4294967296*y) / 2 ^ s % 4294967296:=by
 have e64:(4294967296*4294967296:Nat)=2 ^ s*(4294967296*2 ^ (32-s)):=by
  have h1:2 ^ s*2 ^ (32-s)=4294967296:=by rw[<-Nat.pow_add,show s+(32-s)=32 by omega]
  rw[<-Nat.mul_assoc,Nat.mul_comm (2 ^ s),Nat.mul_assoc,h1]
 have e:x+4294967296*(y+4294967296*R)=(x+4294967296*y)+2 ^ s*(4294967296*(2 ^ (32-s)*R)):=by
  have:4294967296*(4294967296*R)=2 ^ s*(4294967296*(2 ^ (32-s)*R)):=by
   rw[<-Nat.mul_assoc,e64,Nat.mul_assoc,Nat.mul_assoc]
  rw[<-this];omega
 rw[e,Nat.add_mul_div_left _ _ (Nat.pow_pos (by decide)),Nat.add_mul_mod_self_left]
def zfo (l:List Nat)(i:Nat):Nat:=(l[i]?).getD 0
theorem znB {l:List Nat}(h:za3 l){w0 s i:Nat}(hs:s<32)(hi:i+w0<l.length) :
  zag (l.drop w0) / 2 ^ s / 2 ^ (32*i) % 4294967296=(l[i+w0]+4294967296*zfo l (i+w0+1)) / 2 ^ s % 4294967296:=by
 rw[Nat.div_div_eq_div_mul,Nat.mul_comm,<-Nat.div_div_eq_div_mul,zhz (zih h w0) i (by rw[List.length_drop];omega),List.drop_drop];rw[show w0+i=i+w0 by omega,List.drop_eq_getElem_cons hi,zag];by_cases hn:i+w0+1<l.length
 ·have e:zfo l (i+w0+1)=l[i+w0+1]:=by unfold zfo;rw[List.getElem?_eq_getElem hn];rfl
  rw[e,List.drop_eq_getElem_cons hn,zag,zoI hs]
 ·have e:zfo l (i+w0+1)=0:=by unfold zfo;rw[List.getElem?_eq_none (by omega)];rfl
  rw[e,List.drop_eq_nil_of_le (by omega),zag]
theorem zlu {B i x:Nat}(h:B / 2 ^ (32*i) % 4294967296=x):B % 2 ^ (32*(i+1))=B % 2 ^ (32*i)+x*2 ^ (32*i):=by
 rw[zd7,Nat.mul_comm 4294967296,Nat.mod_mul,h,Nat.mul_comm (2 ^ (32*i)) x]
theorem zlv {x y s:Nat}(hx:x<4294967296)(hy:y<4294967296)(hs:s<32):∃T lo:Nat,bits .or .u64 (x:Int) ((y:Int)*4294967296)=(T:Int)/\(T:Int) / 2 ^ s % 4294967296=(lo:Int)/\lo<4294967296/\(T:Int)<18446744073709551616/\T=x+4294967296*y/\(x+4294967296*y) / 2 ^ s % 4294967296=lo:=by
 refine⟨x+4294967296*y,(x+4294967296*y) / 2 ^ s % 4294967296,?_,?_,Nat.mod_lt _ (by decide),by omega,rfl,rfl⟩
 ·have h32:(2:Int) ^ 32=4294967296:=by decide
  rw[znr (i:=32) (by omega) (by omega) (by rw[h32];omega) (by omega) (by rw[h32];omega) (by omega)];omega
 ·obtain⟨P,hP⟩:=nm (2 ^ s);have hcast:((2:Int) ^ s)=(P:Int):=by rw[hP];push_cast;rfl
  rw[hcast,<-hP,<-Int.natCast_ediv];omega
theorem zqO {x s:Nat}(hx:x<4294967296)(hs:s<32):∃lo:Nat,lo<4294967296/\(x:Int) / 2 ^ s % 4294967296=(lo:Int)/\x / 2 ^ s % 4294967296=lo:=by
 refine⟨x / 2 ^ s % 4294967296,Nat.mod_lt _ (by decide),?_,rfl⟩;obtain⟨P,hP⟩:=nm (2 ^ s);have hcast:((2:Int) ^ s)=(P:Int):=by rw[hP];push_cast;rfl
 rw[hcast,<-hP,<-Int.natCast_ediv];omega
theorem zmu {w:World}{l:List Nat}{p:Option Addr}{n c:Nat}(hl:M.At (fun _=>True) w (zaV l) (.slice p n c))(hcl:za3 l)(hn4:n<=1000)(sh:Nat)(hsh:sh<=10000) :
  Calls Tryz.prog 167 #[.slice p n c,.int .u64 (sh:Int)] w (zcC w (zag l / 2 ^ sh)):=by
 obtain⟨hn,hc1,hc2⟩:=zba hl;have HL:=zh hl;have HN:=zh hn;have HCL:=zh hcl;clear hl hn hcl;obtain⟨w0,hw0⟩:=nm (sh / 32);obtain⟨s,hs⟩:=nm (sh % 32);have e1:(sh:Int) / 32=w0:=by omega
 have e2:(sh:Int) % 32=s:=by omega
 have hs32:s<32:=by omega
 have hw4:w0<=400:=by omega
 have HSH:Hid (sh=32*w0+s):=zh (by omega);clear hw0 hs;by_cases hz:n<=w0
 ·have HE:Hid (zag l / 2 ^ sh=0):=zh (by
   have h:=zdV HCL.o;apply Nat.div_eq_of_lt;refine Nat.lt_of_lt_of_le h (Nat.pow_le_pow_right (by decide) ?_);rw[<-HN.o,HSH.o];omega)
  have HEN:=zh (show zcC w (zag l / 2 ^ sh) (.returned (.slice none 0 0)) w by
   rw[HE.o];exact⟨Below.refl _ _,[],none,0,rfl,M.At.nil _ _ 1,⟨fun x hx=>(by cases hx),by simp⟩,by simp[zag]⟩)
  go_in
  go_wp2_with fail;go_ret;exact HEN.o
 ·obtain⟨N1,hN1⟩:=nm (n-w0);have hmk:∀W:World,(Instr.makeSlice 91 (.int .i64 ((n:Int)-w0)) (.int .i64 ((n:Int)-w0))).run Tryz.prog W=.ok (.slice (some ⟨W.heap.size,0,none⟩) N1 N1) (W.alloc (.cells (zdY N1) 195)):=fun W=>by
   have:=zeC W N1 (by omega);rw[show(N1:Int)=(n:Int)-w0 by omega] at this;exact this
  have hN4:N1<=1500:=by omega
  have HN1:=zh hN1;have hnN:N1+w0<=n:=by omega
  have HnN:Hid (N1+w0=n):=zh (by omega);clear hN1
  go_in
  go_wp2_with fail;clear hmk;obtain⟨W3,hW3⟩:=nm (w.alloc (.cells (zdY N1) 195));obtain⟨ub,hub⟩:=nm (w.heap.size);have HU:Hid (MakeW W3 ub N1 0 (List.replicate N1 0)):=zh (by rw[hW3,hub];exact MakeW.new w N1);have HB3:Hid (Below w.heap.size w W3):=zh (by rw[hW3];exact(Below.refl _ w).alloc (Nat.le_refl _) _);have HUB:=zh hub;rw[<-hW3,<-hub,e2];clear hW3 hub;have E1:=zh e1;have E2:=zh e2;clear e1 e2
  go_loopw [8] (fun iv wr=>∃(i:Nat) (rl:List Nat),i<=N1/\iv=.int .i64 (i:Int)/\Hid (MakeW wr ub N1 i rl)/\Hid (Below w.heap.size w wr)/\Hid (zag rl=zag (l.drop w0) / 2 ^ s % 2 ^ (32*i))) (fun iv _=>N1-(intOf iv).toNat)
  case atStart=>exact⟨0,List.replicate N1 0,by omega,rfl,HU,HB3,zh (by rw[zdW,Nat.mul_zero,Nat.pow_zero,Nat.mod_one])⟩
  case round=>
   obtain⟨i,rl,hi,rfl,HM1,HB,HV⟩:=hrel;by_cases hlt:i<N1
   ·have hil:i+w0<l.length:=by have:=HN.o;omega
    obtain⟨b1,o1,rfl,-,s0⟩:=zbq (M.At.below HB.o HL.o) (i+w0) hil;have hx:=HCL.o _ (List.getElem_mem hil);have HRW:=zh (znB HCL.o hs32 hil);have z0:=HM1.o.1.frozen i;have u0:=HM1.o.get hlt;have hlu:=HM1.o.1.lt;have hiw:i+w0<n:=by omega
    by_cases hik:i+w0+1<n
    ·have him:i+w0+1<l.length:=by have:=HN.o;omega
     obtain⟨b2,o2,heq,-,t0⟩:=zbq (M.At.below HB.o HL.o) (i+w0+1) him;cases heq;have hy:=HCL.o _ (List.getElem_mem him);have HNX:=zh (show zfo l (i+w0+1)=l[i+w0+1] by unfold zfo;rw[List.getElem?_eq_getElem him];rfl);generalize l[i+w0]=x at *;generalize l[i+w0+1]=y at *;obtain⟨T,lo,q1,q2,hlo,hT,hTe,hst⟩:=zlv hx hy hs32;have HST:Hid (zag (l.drop w0) / 2 ^ s / 2 ^ (32*i) % 4294967296=lo):=zh (by rw[HRW.o,HNX.o,hst]);have HPUT:=zh (HM1.o.put hlt hlo);have HQ1:=zh q1;have HQ2:=zh q2;have hxI:(x:Int)<4294967296:=by omega
     have hcd:decide ((i:Int)+(w0:Int)+1<(n:Int))=true:=decide_eq_true (by omega);have hcI:(i:Int)+(w0:Int)+1<(n:Int):=by omega
     have hyI:(y:Int)<4294967296:=by omega
     clear hx hy hlo hst q1 q2 HM1 hTe hT;go_wp2_with fail;rw[HQ1.o,HQ2.o];go_roundw
     case rel=>
      refine⟨i+1,_,by omega,by go_num,zh HPUT.o.1,zh (zbl HB.o (by have:=HUB.o;omega) _),zh ?_⟩;rw[HPUT.o.2,HV.o,zlu HST.o]
     case measure=>simp[intOf];omega
    ·have HNX:=zh (show zfo l (i+w0+1)=0 by unfold zfo;rw[List.getElem?_eq_none (by have:=HN.o;omega)];rfl);generalize l[i+w0]=x at *;obtain⟨lo,hlo,q2,hst⟩:=zqO hx hs32;have HST:Hid (zag (l.drop w0) / 2 ^ s / 2 ^ (32*i) % 4294967296=lo):=zh (by rw[HRW.o,HNX.o,Nat.mul_zero,Nat.add_zero,hst]);have HPUT:=zh (HM1.o.put hlt hlo);have HQ2:=zh q2;have hxI:(x:Int)<4294967296:=by omega
     have hcd:decide ((i:Int)+(w0:Int)+1<(n:Int))=false:=decide_eq_false (by omega);have hcI:¬(i:Int)+(w0:Int)+1<(n:Int):=by omega
     clear hx hlo hst q2 HM1;go_wp2_with fail;rw[HQ2.o];go_roundw
     case rel=>
      refine⟨i+1,_,by omega,by go_num,zh HPUT.o.1,zh (zbl HB.o (by have:=HUB.o;omega) _),zh ?_⟩;rw[HPUT.o.2,HV.o,zlu HST.o]
     case measure=>simp[intOf];omega
   ·obtain rfl:i=N1:=by omega
    have HV2:Hid (zag rl=zag l / 2 ^ sh):=zh (by
     have hle:w0<=l.length:=by rw[<-HN.o];omega
     have h1:=zdV (zih HCL.o w0);rw[List.length_drop,<-HN.o,show n-w0=i by have:=HnN.o;omega] at h1;have h2:=HV.o;rw[Nat.mod_eq_of_lt (Nat.lt_of_le_of_lt (Nat.div_le_self _ _) h1),<-zhz HCL.o w0 hle,Nat.div_div_eq_div_mul,<-Nat.pow_add,<-HSH.o] at h2;exact h2)
    have HTC:=zh (zdX (HM1.o.words (S:=fun b=>w.heap.size<=b) (by have:=HUB.o;omega) (by omega)));have HSM:=zh HM1.o.2.2.1;clear hlt;go_wp2_with fail;refine HTC.o.mono ?_;rintro e W5 ⟨hb5,q5,c5,rfl,hat⟩;have HB5:=zh (HB.o.trans (hb5.mono HB.o.size));have HAT:=zh hat;clear hb5 hat;go_wp2_with fail;rw[<-HV2.o];go_ret;exact⟨HB5.o,_,q5,c5,rfl,HAT.o,zdp HSM.o,zem _⟩
def zdb (v:Nat):Nat:=if v=0 then 0 else Nat.log2 v+1
theorem zqP {v n:Nat}(h1:v<2 ^ n)(h2:n=0\/2 ^ (n-1)<=v):zdb v=n:=by
 unfold zdb;by_cases hv:v=0
 ·rw[if_pos hv];rcases h2 with h|h
  ·exact h.symm
  ·have:0<2 ^ (n-1):=Nat.pow_pos (by decide);omega
 ·rw[if_neg hv];have hn:n≠0:=fun e=>by rw[e] at h1;simp at h1;exact hv h1
  have h3:2 ^ (n-1)<=v:=by rcases h2 with h|h;exact absurd h hn;exact h
  have h4:Nat.log2 v<n:=(Nat.log2_lt hv).2 h1;have h5:n-1<=Nat.log2 v:=(Nat.le_log2 hv).2 h3;omega
theorem znC {l:List Nat}(h:zbT l)(hl:l≠[]){n:Nat}(h1:l[l.length-1]'(by have:=List.length_pos_iff.2 hl;omega)<2 ^ n)(h2:n=0\/2 ^ (n-1)<=l[l.length-1]'(by have:=List.length_pos_iff.2 hl;omega)):zdb (zag l)=(l.length-1)*32+n:=by
 have hp:=List.length_pos_iff.2 hl;obtain⟨k,hk⟩:∃k,l.length=k+1:=⟨l.length-1,by omega⟩;have e:zag l=zag (l.take k)+l[l.length-1]'(by omega)*2 ^ (32*k):=by
  have:=zcV (l:=l) (i:=k) (by omega);rw[List.take_of_length_le (by omega)] at this;rw[this]
  congr 2
  congr 1
  omega
 have hne:l[l.length-1]'(by omega)≠0:=fun e0=>by
  apply h.2;rw[List.getLast?_eq_getElem?,List.getElem?_eq_getElem (by omega),e0]
 have hlt:=zdV (ze7 h.1 k);rw[List.length_take,Nat.min_eq_left (by omega)] at hlt;generalize l[l.length-1]'(by omega)=x at *;have hn0:n≠0:=fun e0=>by rw[e0] at h1;simp at h1;exact hne h1
 have h3:2 ^ (n-1)<=x:=by rcases h2 with g|g;exact absurd g hn0;exact g
 apply zqP
 ·have g1:(x+1)*2 ^ (32*k)<=2 ^ n*2 ^ (32*k):=Nat.mul_le_mul_right _ h1;rw[<-Nat.pow_add,Nat.add_mul,Nat.one_mul] at g1;rw[e,hk,Nat.add_sub_cancel,Nat.mul_comm k 32,Nat.add_comm (32*k)];omega
 ·right;have g1:2 ^ (n-1)*2 ^ (32*k)<=x*2 ^ (32*k):=Nat.mul_le_mul_right _ h3;rw[<-Nat.pow_add] at g1;rw[e,hk,Nat.add_sub_cancel,show k*32+n-1=n-1+32*k by omega];omega
theorem zfA {w:World}{l:List Nat}{p:Option Addr}{n c:Nat}(hl:M.At (fun _=>True) w (zaV l) (.slice p n c))(hcl:zbT l)(hn4:n<=1000) :
  Calls Tryz.prog 166 #[.slice p n c] w (zaz w (.int .i64 (zdb (zag l)))):=by
 obtain⟨hn,hc1,hc2⟩:=zba hl;have HL:=zh hl;have HN:=zh hn;have HCL:=zh hcl;clear hl hn hcl;obtain⟨R,hR⟩:=nm (zdb (zag l));rw[<-hR];have HR:=zh hR;clear hR;by_cases hz:n=0
 ·have HE:Hid (R=0):=zh (by
   have:l=[]:=List.eq_nil_of_length_eq_zero (by have:=HN.o;omega);rw[HR.o,this];rfl)
  have hb:((n:Int) == 0)=true:=by simp;omega
  go_in
  go_wp2_with fail;rw[HE.o];go_ret;exact⟨rfl,rfl⟩
 ·have hb:((n:Int) == 0)=false:=by simp;omega
  have hnl:n-1<l.length:=by have:=HN.o;omega
  obtain⟨b,o,rfl,-,s0⟩:=zbq HL.o (n-1) hnl;have hx:=HCL.o.1 _ (List.getElem_mem hnl);have HBL:=zh (fun(m:Nat) (h1:l[n-1]<2 ^ m) (h2:m=0\/2 ^ (m-1)<=l[n-1])=>show R=(n-1)*32+m by
   have hne:l≠[]:=fun e=>by rw[e] at hnl;simp at hnl
   have hln:=HN.o;rw[HR.o];subst hln;exact znC HCL.o hne h1 h2)
  obtain⟨k,hk⟩:∃k,n=k+1:=⟨n-1,by omega⟩;subst hk;simp only[Nat.add_sub_cancel] at s0 hx HBL hnl;obtain⟨x,hxe⟩:=nm (l[k]);rw[<-hxe] at s0 hx HBL;clear hxe;have hb2:((k:Int)+1 == 0)=false:=by simp;omega
  have hsub:((k:Int)+1-1)=k:=by omega
  have hxI:(x:Int)<4294967296:=by omega
  clear hz hb
  go_in
  go_wp2_with fail
  go_loopw [3,4] (fun nv tv wr=>wr=w/\∃j y:Nat,j<=32/\y<4294967296/\nv=.int .i64 (j:Int)/\tv=.int .u32 (y:Int)/\Hid (y=x / 2 ^ j)/\Hid (j=0\/2 ^ (j-1)<=x)) (fun nv tv _=>(intOf tv).toNat)
  case atStart=>exact⟨rfl,0,x,by omega,hx,rfl,rfl,zh (by simp),zh (.inl rfl)⟩
  case round=>
   obtain⟨rfl,j,y,hj,hy,rfl,rfl,HY,HJ⟩:=hrel;have hyI:(y:Int)<4294967296:=by omega
   by_cases hy0:y=0
   ·have HE:Hid (R=k*32+j):=zh (HBL.o j (by
     have h:=HY.o;rw[hy0] at h;rcases Nat.div_eq_zero_iff.1 h.symm with h|h
     ·have:=Nat.pow_pos (n:=j) (show 0<2 by decide);omega
     ·exact h) HJ.o)
    clear HY;have hby:((y:Int) != 0)=false:=by simp;omega
    have hjI:(j:Int)<=32:=by omega
    have hkI:(k:Int)<=1000:=by omega
    clear hy0;go_wp2_with fail;rw[HE.o];go_ret;exact⟨by rw[Int.natCast_add,Int.natCast_mul];rfl,rfl⟩
   ·have hby:((y:Int) != 0)=true:=by simp;omega
    have HYT:=zh (show((y / 2:Nat):Int)=(y:Int) / 2 by omega);have h32:j+1<=32:=by
     apply Classical.byContradiction;intro h;have hj32:j=32:=by omega
     have h:=HY.o;rw[hj32,Nat.div_eq_of_lt hx] at h;exact hy0 h
    have HJ2:Hid (2 ^ j<=x):=zh (by
     apply Classical.byContradiction;intro h;have h2:=HY.o;rw[Nat.div_eq_of_lt (by omega)] at h2;exact hy0 h2)
    go_wp2_with fail;go_roundw
    case rel=>
     exact⟨trivial,j+1,y / 2,h32,by omega,rfl,rfl,zh (by rw[HY.o,Nat.div_div_eq_div_mul,Nat.pow_succ]),zh (.inr HJ2.o)⟩
    case measure=>simp only[intOf];omega
theorem zqd:Tryz.prog.underlying 91=some (.slice 195):=by kernel_rfl
theorem zmV:(Tryz.prog.info? 195).map (fun i=>(i.zero,i.size,i.bytes))=some (some (.int .u32 0),1,4):=by kernel_rfl
theorem zmv {S:Nat->Prop}{w:World}{l:List Nat}{b o n c:Nat}(h:M.At S w (zaV l) (.slice (some ⟨b,o,none⟩) n c)):∀(j:Nat) (u:Value),(l.map zb5)[j]?=some u->w.cell? (Addr.add ⟨b,o,none⟩ j)=some u:=fun j u hj=>by
 have hjl:j<l.length:=by have:=(List.getElem?_eq_some_iff.1 hj).1;simpa using this
 obtain⟨b',o',e,-,hc⟩:=zbq h j hjl;cases e;rw[List.getElem?_map,List.getElem?_eq_getElem hjl] at hj;cases hj;rw[Addr.add_lit];exact hc
theorem zoJ {w:World}{base:Nat}{l:List Nat}{v:Value}(h:w.ownsRow base 195 1 v l.length (l.map zb5)):∃q c,v=.slice q l.length c/\M.At (fun b=>base<=b) w (zaV l) (.slice q l.length c):=by
 rcases h.2 with⟨rfl,h0⟩|⟨g,cap,cur,rfl,hb,hg,hn,hm,hs,ht⟩
 ·have:l=[]:=List.eq_nil_of_length_eq_zero h0;subst this;exact⟨none,0,rfl,M.At.of (S:=fun b=>base<=b) (rows:=[]) (by decide) (M.RowsAt.mk (by decide) fun i hi=>by simp at hi)⟩
 ·refine⟨_,_,rfl,?_⟩;have:=M.At.of (S:=fun b=>base<=b) (w:=w) (sz:=1) (rows:=l.map fun x=>[M.one (zb5 x)]) (p:=some ⟨g,0,none⟩) (cap:=cap) ⟨by simpa using hn,hm⟩ (M.RowsAt.mk (by decide) fun i hi=>?_)
  ·rw[List.length_map] at this;exact this
  ·have hi':i<l.length:=by simpa using hi
   refine⟨g,0,[zb5 l[i]],rfl,hb,rfl,fun j u hj=>?_,?_⟩
   ·obtain⟨rfl,rfl⟩:j=0/\zb5 l[i]=u:=by
     cases j with
     | zero=>exact⟨rfl,by simpa using hj⟩
     | succ j=>simp at hj
    have e:cur.toList[i]?=some (zb5 l[i]):=by
     have h1:(cur.toList.take (l.length*1))[i]?=some (zb5 l[i]):=by rw[ht,List.getElem?_map,List.getElem?_eq_getElem hi'];rfl
     rwa [List.getElem?_take_of_lt (by omega)] at h1
    unfold World.cell?;simp only[hg];simpa using e
   ·rw[List.getElem_map];simp only[M.AtL,M.At];exact⟨_,_,rfl,rfl,rfl⟩
theorem zhA {P:Program}{w:World}(t ty e:TypeId)(i:TypeInfo)(ht:P.underlying t=some (.slice e))(hi:P.info? e=some i)(p:Option Addr)(c:Nat):(Builtin.append_ #[t,t] ty #[.slice none 0 0,.slice p 0 c]).run P w=.ok (.slice none 0 0) w:=by
 cases p with
 | none=>simp[Builtin.append_,run_underlying ht,sizeOf,typeInfo,hi,Builtin.lenOf,Builtin.firstCells]
 | some a=>
  have h:=run_firstCells_some (P:=P) w i.size 0 a 0 c [] (by simp) (by simp);simp[Builtin.append_,run_underlying ht,sizeOf,typeInfo,hi,Builtin.lenOf,h]
theorem zgf {P:Program}{w:World}{ops:Array Oper}{rest:List Oper}{o:Oper}{a:Act}{Q:Exit->Act->World->Prop}(hgd:o.guard=none)(s x:Operand)(t:TypeId)
  (ho:o.op=.call { callee:=.builtin .append,args:=#[s,x],argTypes:=#[t,t] })
  (e:TypeId) (i:TypeInfo) (ht:P.underlying t=some (.slice e)) (hi:P.info? e=some i)
  (hs:a.eval s=.slice none 0 0) (p:Option Addr) (c:Nat) (hx:a.eval x=.slice p 0 c)
  (h:wpList P ops Q rest (a.put o.dst (.slice none 0 0)) w):wpList P ops Q (o :: rest) a w:=by
 refine wpList_plain hgd fun K hK=>?_;have hrun:=zhA (P:=P) (w:=w) t o.type e i ht hi p c;unfold Oper.wp;simp[execOp,ho,resolve,invoke,builtin,hs,hx,hrun,Result.andThen];exact hK _ _ h
theorem zi9 {S:Nat->Prop}{w:World}{l:List Nat}{p:Option Addr}{n c:Nat}(hl:M.At S w (zaV l) (.slice p n c))(hcl:zbT l)(hn4:n<=1000) :
  Calls Tryz.prog 152 #[.slice p n c] w (zcC w (zag l)):=by
 obtain⟨hn,hc1,hc2⟩:=zba hl;by_cases hz:n=0
 ·obtain⟨i0,hi,hz0,hz1,hz2⟩:=info_parts zmV;subst hz;have HCL:Hid (zag l=0):=zh (by rw[List.eq_nil_of_length_eq_zero hn.symm];rfl);clear hl hn hcl
  go_in
  go_wp2_with (at_builtin;refine zgf rfl _ _ 91 rfl 195 i0 zqd hi rfl p c rfl ?_);go_ret;rw[HCL.o];exact⟨Below.refl _ w,[],none,0,rfl,M.At.nil _ _ _,⟨by simp[za3],by simp⟩,rfl⟩
 ·obtain⟨i0,hi,hz0,hz1,hz2⟩:=info_parts zmV;obtain⟨b,o,rfl,-,-⟩:=zbq hl 0 (by omega);have HW:=zh (zmv hl);have HN:=zh hn;have HCL:=zh hcl;have HL:=zh hl;clear hl hn hcl
  go_in
  go_wp2_with (at_builtin;refine wpList_append_own_at _ rfl _ _ 91 rfl w.heap.size 195 i0 (.int .u32 0) 1 4 zqd hi hz0 hz1 hz2 rfl (by decide) _ 0 [] rfl ?e2 ⟨b,o,none⟩ n c (l.map zb5) rfl ?e4 ?e5 ?e6 (by unfold maxLen;omega) (by omega) ?e9 ?_)
  case e2=>exact World.ownsRow_nil _ _ _ _
  case e4=>rw[List.length_map,HN.o];omega
  case e5=>exact HW.o
  case e6=>intro u hu;obtain⟨x,-,rfl⟩:=List.mem_map.1 hu;rfl
  case e9=>simp
  intro v' w1 hown hgrow hnil hat;have HO:=zh hown;have HG:=zh hgrow;clear hown hgrow hnil hat;go_wp2_with fail;go_ret;have h1:=HO.o;rw[HN.o] at h1;obtain⟨q,c',rfl,h2⟩:=zoJ h1;exact⟨(Below.refl _ w).grown HG.o (by simp) (fun k e=>by simp[Value.ownBlock] at e),l,q,c',rfl,h2,HCL.o,rfl⟩
def IntAt (S:Nat->Prop)(w:World)(zb:Nat)(z:Int):Prop:=∃l q c,BoxN w zb 93 [.bool (decide (z<0)),.slice q l.length c]/\M.At S w (zaV l) (.slice q l.length c)/\zbT l/\zag l=z.natAbs
def zfp (w:World)(zb:Nat)(z:Int)(e:Ending)(w':World):Prop:=e=.returned (.pointer (some ⟨zb,0,none⟩))/\w.grownBy w' (some zb)/\IntAt (fun b=>w.heap.size<=b) w' zb z
theorem IntAt.keep {S T:Nat->Prop}{w w':World}{zb:Nat}{z:Int}(h:IntAt S w zb z)(hz:w'.heap[zb]?=w.heap[zb]?)(hk:∀b,S b->b<w.heap.size->w'.heap[b]?=w.heap[b]?/\T b):IntAt T w' zb z:=by
 obtain⟨l,q,c,h1,h2,h3,h4⟩:=h;exact⟨l,q,c,hz.trans h1,M.At.keep hk h2,h3,h4⟩
theorem IntAt.lt {S:Nat->Prop}{w:World}{zb:Nat}{z:Int}(h:IntAt S w zb z):zb<w.heap.size:=by
 obtain⟨l,q,c,h1,-⟩:=h;exact h1.lt
theorem IntAt.below {S:Nat->Prop}{w w':World}{zb:Nat}{z:Int}(h:IntAt S w zb z)(hb:Below w.heap.size w w'):IntAt S w' zb z:=h.keep (hb.block zb h.lt) (fun b hs hl=>⟨hb.block b hl,hs⟩)
theorem IntAt.mono {S T:Nat->Prop}{w:World}{zb:Nat}{z:Int}(h:IntAt S w zb z)(hS:∀b,S b->T b):IntAt T w zb z:=h.keep rfl (fun b hs _=>⟨rfl,hS b hs⟩)
theorem Below.grownBy {w w':World}(h:Below w.heap.size w w')(r:Option Nat):w.grownBy w' r:=⟨h.os,h.tape,h.output,h.size,fun i hi _=>h.block i hi⟩
theorem zad {w w' w'':World}{r:Option Nat}(h:w.grownBy w' r)(h':w'.grownBy w'' r):w.grownBy w'' r:=⟨h'.os.trans h.os,h'.tape.trans h.tape,h'.output.trans h.output,Nat.le_trans h.size h'.size,fun i hi hn=>(h'.block i (Nat.lt_of_lt_of_le hi h.size) hn).trans (h.block i hi hn)⟩
theorem zai (w:World)(zb i:Nat)(v:Value):w.grownBy (w.setCell ⟨zb,i,none⟩ v) (some zb):=⟨rfl,rfl,rfl,by rw[World.size_setCell];exact Nat.le_refl _,fun k _ hn=>Below.heap_setCell _ _ _ k (fun e=>hn (by rw[e]))⟩
def zfB (S:Nat->Prop)(w:World)(zb:Nat)(z:Int)(e:Ending)(w':World):Prop:=e=.returned (.pointer (some ⟨zb,0,none⟩))/\w.grownBy w' (some zb)/\IntAt S w' zb z
theorem znD {S:Nat->Prop}{w:World}{zb:Nat}{u0 u1:Value}(hb:BoxN w zb 93 [u0,u1])(neg:Bool){l:List Nat}{p:Option Addr}{n c:Nat}(hl:M.At S w (zaV l) (.slice p n c))(hcl:zbT l)(hS:¬S zb) :
  Calls Tryz.prog 151 #[.pointer (some ⟨zb,0,none⟩),.bool neg,.slice p n c] w (zfB S w zb (if neg then -(zag l:Int) else zag l)):=by
 obtain⟨hn,hc1,hc2⟩:=zba hl;have p0:=hb.row 0 _ rfl;have p1:=hb.row 1 _ rfl;have z0:=hb.frozen 0;have z1:=hb.frozen 1;have hlt:=hb.lt;have HF:Hid (∀ng:Bool,ng=decide ((if neg then -(zag l:Int) else zag l)<0)->zfB S w zb (if neg then -(zag l:Int) else zag l) (.returned (.pointer (some ⟨zb,0,none⟩))) ((w.setCell ⟨zb,1,none⟩ (.slice p n c)).setCell ⟨zb,0,none⟩ (.bool ng))):=zh (fun ng hng=>by
  have hg:w.grownBy ((w.setCell ⟨zb,1,none⟩ (.slice p n c)).setCell ⟨zb,0,none⟩ (.bool ng)) (some zb):=zad (zai w zb 1 _) (zai _ zb 0 _);refine⟨rfl,hg,l,p,c,?_,?_,hcl,?_⟩
  ·have:=(hb.set 1 (.slice p n c)).set 0 (.bool ng);rw[<-hn,<-hng];exact this
  ·rw[<-hn];exact hl.keep (fun b hs hlt=>⟨hg.block b hlt (fun e=>by cases e;exact hS hs),hs⟩)
  ·cases neg <;> simp)
 have HV:Hid (0<n↔0<zag l):=zh (by
  have h0:=zj8 hcl;rw[hn];constructor
  ·intro h;apply Nat.pos_of_ne_zero;intro e;rw[h0.1 e] at h;simp at h
  ·intro h;apply Nat.pos_of_ne_zero;intro e;rw[List.eq_nil_of_length_eq_zero e] at h;simp[zag] at h)
 clear hb hl hn hcl hS;cases neg with
 | false=>
  have HG:=zh (HF.o false (by simp));clear HF HV;generalize zfB S w zb _=PP at *
  go_in
  go_wp2_with fail;exact HG.o
 | true=>
  by_cases h0:0<n
  ·have hv:=HV.o.1 h0;have HG:=zh (HF.o true (by simp;omega));have hb1:decide ((n:Int) > 0)=true:=by simp;omega
   clear HF HV hv;generalize zfB S w zb _=PP at *
   go_in
   go_wp2_with fail;exact HG.o
  ·have hv:¬0<zag l:=fun h=>h0 (HV.o.2 h);have HG:=zh (HF.o false (by simp;omega));have hb1:decide ((n:Int) > 0)=false:=by simp;omega
   clear HF HV hv;generalize zfB S w zb _=PP at *
   go_in
   go_wp2_with fail;exact HG.o
def zdc (neg:Bool)(v:Nat):Int:=if neg then -(v:Int) else v
def zeW (w:World)(z:Int)(e:Ending)(w':World):Prop:=Below w.heap.size w w'/\∃neg l q c,e=.returned (.tuple #[.bool neg,.slice q l.length c])/\M.At (fun b=>w.heap.size<=b) w' (zaV l) (.slice q l.length c)/\zbT l/\zdc neg (zag l)=z
theorem zkd {S T:Nat->Prop}{w:World}(xn yn:Bool){l m:List Nat}{p q:Option Addr}{n k c d:Nat}(hl:M.At S w (zaV l) (.slice p n c))(hm:M.At T w (zaV m) (.slice q k d))(hcl:zbT l)(hcm:zbT m)(hn4:n<=1000)(hk4:k<=1000) :
  Calls Tryz.prog 153 #[.bool xn,.slice p n c,.bool yn,.slice q k d] w (zeW w (zdc xn (zag l)+zdc yn (zag m))):=by
 have hl':=hl.mono (T:=fun _=>True) (fun _ _=>trivial);have hm':=hm.mono (T:=fun _=>True) (fun _ _=>trivial);have hn:=(zba hl).1;have hk:=(zba hm).1;have HL:=zh hl';have HM:=zh hm';have HCL:=zh hcl;have HCM:=zh hcm;have HN:=zh hn;have HK:=zh hk;clear hl hm hcl hcm hl' hm' hn hk;by_cases hxy:xn=yn
 ·subst hxy;have HF:Hid (∀e w1,zcC w (zag l+zag m) e w1->∃v,e=.returned v/\zeW w (zdc xn (zag l)+zdc xn (zag m)) (.returned (.tuple #[.bool xn,v])) w1):=zh (by
   rintro e w1 ⟨hb,r,q',c',rfl,h1,h2,h3⟩;refine⟨_,rfl,hb,xn,r,q',c',rfl,h1,h2,?_⟩;rw[h3];unfold zdc;cases xn <;> simp <;> omega)
  have hb:(xn == xn)=true:=by simp
  generalize zeW w _=PP at *;cases xn <;>
  ·go_in
   go_wp2_with fail;refine(zoF HL.o HM.o HCL.o.1 HCM.o.1 hn4 hk4).mono ?_;intro e w1 h1;obtain⟨v,rfl,h2⟩:=HF.o e w1 h1;have H2:=zh h2;clear h1 h2;go_wp2_with fail;exact H2.o
 ·by_cases hge:zag m<=zag l
  ·have HF:Hid (∀W,Below w.heap.size w W->∀e w1,zcC W (zag l-zag m) e w1->∃v,e=.returned v/\zeW w (zdc xn (zag l)+zdc yn (zag m)) (.returned (.tuple #[.bool xn,v])) w1):=zh (by
    rintro W hW e w1 ⟨hb,r,q',c',rfl,h1,h2,h3⟩;refine⟨_,rfl,hW.trans (hb.mono hW.size),xn,r,q',c',rfl,h1.mono (fun b hb'=>Nat.le_trans hW.size hb'),h2,?_⟩;rw[h3];unfold zdc;cases xn <;> cases yn <;> simp at hxy ⊢ <;> omega)
   have HC:Hid (0<=zdu (zag l) (zag m)):=zh (by unfold zdu;repeat (first|(split <;> omega)|split));have HKN:Hid (k<=n):=zh (by
    apply Classical.byContradiction;intro h;have:=ze8 HCL.o.1 HCM.o (by rw[<-HN.o,<-HK.o];omega);omega)
   generalize zeW w _=PP at *;have hge':=zh hge;clear hge;cases xn <;> cases yn <;> first|exact absurd rfl hxy|skip
   all_goals
    clear hxy
    go_in
    go_wp2_with fail;refine(zgG HL.o HM.o HCL.o HCM.o).mono ?_;rintro e w1 ⟨rfl,hw1⟩;obtain⟨t,rfl⟩:=hw1;have HB:=zh (zab (Below.refl w.heap.size w) t);obtain⟨g,hg⟩:=nm (zdu (zag l) (zag m));rw[<-hg];have hg0:0<=g:=by rw[hg];exact HC.o
    have hgb:decide (g ≥ 0)=true:=by simpa using hg0
    clear hg HC;go_wp2_with fail;refine(zkc (M.At.below HB.o HL.o) (M.At.below HB.o HM.o) HCL.o.1 HCM.o.1 HKN.o hn4 hge'.o).mono ?_;intro e w1 h1;obtain⟨v,rfl,h2⟩:=HF.o _ HB.o e w1 h1;have H2:=zh h2;clear h1 h2;go_wp2_with fail;exact H2.o
  ·have HF:Hid (∀W,Below w.heap.size w W->∀e w1,zcC W (zag m-zag l) e w1->∃v,e=.returned v/\zeW w (zdc xn (zag l)+zdc yn (zag m)) (.returned (.tuple #[.bool yn,v])) w1):=zh (by
    rintro W hW e w1 ⟨hb,r,q',c',rfl,h1,h2,h3⟩;refine⟨_,rfl,hW.trans (hb.mono hW.size),yn,r,q',c',rfl,h1.mono (fun b hb'=>Nat.le_trans hW.size hb'),h2,?_⟩;rw[h3];unfold zdc;cases xn <;> cases yn <;> simp at hxy ⊢ <;> omega)
   have HC:Hid (zdu (zag l) (zag m)<0):=zh (by unfold zdu;rw[if_pos (by omega)];omega);have HKN:Hid (n<=k):=zh (by
    apply Classical.byContradiction;intro h;have:=ze8 HCM.o.1 HCL.o (by rw[<-HN.o,<-HK.o];omega);omega)
   generalize zeW w _=PP at *;have hge':=zh (show zag l<=zag m by omega);clear hge;cases xn <;> cases yn <;> first|exact absurd rfl hxy|skip
   all_goals
    clear hxy
    go_in
    go_wp2_with fail;refine(zgG HL.o HM.o HCL.o HCM.o).mono ?_;rintro e w1 ⟨rfl,hw1⟩;obtain⟨t,rfl⟩:=hw1;have HB:=zh (zab (Below.refl w.heap.size w) t);obtain⟨g,hg⟩:=nm (zdu (zag l) (zag m));rw[<-hg];have hg0:g<0:=by rw[hg];exact HC.o
    have hgb:decide (g ≥ 0)=false:=by simpa using hg0
    clear hg HC;go_wp2_with fail;refine(zkc (M.At.below HB.o HM.o) (M.At.below HB.o HL.o) HCM.o.1 HCL.o.1 HKN.o hk4 hge'.o).mono ?_;intro e w1 h1;obtain⟨v,rfl,h2⟩:=HF.o _ HB.o e w1 h1;have H2:=zh h2;clear h1 h2;go_wp2_with fail;exact H2.o
end Go.Fld
namespace Go.Fld
open Go Go.RowKit Go.Proofs Go.ChangeShapes Go.WideShapes Go.ChangeAt Go.Shelf Go.Fld.Late
theorem zdZ {w w1:World}{zb:Nat}{u0 u1:Value}(hz:BoxN w zb 93 [u0,u1])(hb:Below w.heap.size w w1)(neg:Bool){l:List Nat}{q:Option Addr}{c:Nat}(h:M.At (fun b=>w.heap.size<=b) w1 (zaV l) (.slice q l.length c))(hcl:zbT l){z:Int}(he:zdc neg (zag l)=z) :
  Calls Tryz.prog 151 #[.pointer (some ⟨zb,0,none⟩),.bool neg,.slice q l.length c] w1 (zfp w zb z):=by
 refine(znD (hz.below hb hz.lt) neg h hcl (by have:=hz.lt;omega)).mono ?_;rintro e w2 ⟨h1,h2,h3⟩;refine⟨h1,zad (Below.grownBy hb _) h2,?_⟩;rw[<-he];exact h3
def zaR (z:Int):Prop:=∃k,k<=100/\z.natAbs<2 ^ (32*k)
theorem zoK {l:List Nat}{z:Int}(hcl:zbT l)(hv:zag l=z.natAbs)(hs:zaR z):l.length<=100:=by
 obtain⟨k,hk,h⟩:=hs;exact Nat.le_trans (zpS hcl (by rw[hv];exact h)) hk
theorem IntAt.parts {S:Nat->Prop}{w:World}{xb:Nat}{x:Int}(h:IntAt S w xb x)(hs:zaR x):∃(ng:Bool) (l:List Nat) (n:Nat) (q:Option Addr) (c:Nat),RowAt w xb [.bool ng,.slice q n c]/\M.At (fun _=>True) w (zaV l) (.slice q n c)/\zbT l/\n<=100/\zdc ng (zag l)=x/\zag l=x.natAbs/\ng=decide (x<0)/\n=l.length:=by
 obtain⟨l,q,c,h1,h2,h3,h4⟩:=h;refine⟨_,l,l.length,q,c,h1.row,h2.mono (fun _ _=>trivial),h3,zoK h3 h4 hs,?_,h4,rfl,rfl⟩;unfold zdc;rw[h4];by_cases hx:x<0
 ·rw[if_pos (by simpa using hx)];omega
 ·rw[if_neg (by simpa using hx)];omega
theorem zrv {S:Nat->Prop}{w:World}{zb xb:Nat}{u0 u1:Value}{x:Int}(hz:BoxN w zb 93 [u0,u1])(hx:IntAt S w xb x)(hs:zaR x) :
  Calls Tryz.prog 144 #[.pointer (some ⟨zb,0,none⟩),.pointer (some ⟨xb,0,none⟩)] w (zfp w zb (x)):=by
 obtain⟨ng,l,n,q,c,hr,hl,hcl,hn,hsg,hab,hng,hnl⟩:=hx.parts hs;have HR:=zh hr;have HL:=zh hl;have HCL:=zh hcl;have HSG:=zh hsg;have HAB:=zh hab;have HNL:=zh hnl;have HZ:=zh hz;clear hx hs hr hl hcl hsg hab hng hnl hz
 go_in
 go_wp2_with fail;obtain⟨V,hV⟩:=nm (w.drew);have HVS:=zh (show V.heap.size=w.heap.size by rw[hV];rfl);have HV:=zh (show Below w.heap.size w V by rw[hV];exact zaf (Below.refl _ w));have HRV:=zh (HR.o.below HV.o);refine Late.region (fun w'=>RowAt w' xb [.bool ng,.slice q n c]) (fun j=>decide (10<=j)) rfl ?_;rw[<-hV];clear hV;refine Late.tb (i:=0) (v:=?_) ?_ HRV.o ?_;rotate_left
 ·intro w' hS;clear hS;go_simp;rfl
 refine Late.tb (i:=1) (v:=?_) ?_ HRV.o ?_;rotate_left
 ·intro w' hS;clear hS;go_simp;rfl
 refine Late.tb (i:=2) (v:=?_) ?_ HRV.o ?_;rotate_left
 ·intro w' hS;clear hS;go_simp;rfl
 refine Late.tb (i:=3) (v:=?_) ?_ HRV.o ?_;rotate_left
 ·intro w' hS;clear hS;go_simp;rfl
 refine Late.tb (i:=4) (v:=?_) ?_ HRV.o ?_;rotate_left
 ·intro w' hS;have p0:=hS 0 _ rfl;clear hS;go_simp;rfl
 refine Late.tb (i:=5) (v:=?_) ?_ HRV.o ?_;rotate_left
 ·intro w' hS;clear hS;go_simp;rfl
 refine Late.tb (i:=6) (v:=?_) ?_ HRV.o ?_;rotate_left
 ·intro w' hS;clear hS;go_simp;rfl
 refine Late.tb (i:=7) (v:=?_) ?_ HRV.o ?_;rotate_left
 ·intro w' hS;clear hS;go_simp;rfl
 refine Late.tb (i:=8) (v:=?_) ?_ HRV.o ?_;rotate_left
 ·intro w' hS;have p1:=hS 1 _ rfl;clear hS;go_simp;rfl
 refine Late.on (i:=9) fun K hK=>?_;go_simp;refine(zi9 (HL.o.below (w':=V) (Below.mono HV.o (Nat.le_refl _))) HCL.o (by omega)).mono ?_;rintro e w1 ⟨hb,l1,q1,c1,rfl,h1,h2,h3⟩;rw[HVS.o] at h1;have HB1:=zh (HV.o.trans (hb.mono HV.o.size));have HH1:=zh h1;have HH2:=zh h2;have HH3:=zh h3;have HR1:=zh (HRV.o.below hb);clear hb h1 h2 h3;refine hK _ _ (fun _=>HR1.o) ?_;clear hK K;refine Late.on (i:=10) fun K hK=>?_;go_simp;refine(zdZ HZ.o HB1.o ng HH1.o HH2.o (z:=x) (by rw[HH3.o];exact HSG.o)).mono ?_;rintro e w2 ⟨rfl,h4,h5⟩;have H4:=zh h4;have H5:=zh h5;clear h4 h5;refine hK _ _ (fun h=>by cases h) ?_;clear hK K;refine Late.on (i:=11) fun K hK=>?_;go_simp;refine hK _ _ (fun h=>by cases h) ?_;clear hK K;refine Late.done (by kernel_rfl) ?_ _;go_wp2_with fail;go_ret;exact⟨rfl,H4.o,H5.o⟩
theorem zdH {S:Nat->Prop}{w:World}{zb xb:Nat}{u0 u1:Value}{x:Int}(hz:BoxN w zb 93 [u0,u1])(hx:IntAt S w xb x)(hs:zaR x) :
  Calls Tryz.prog 148 #[.pointer (some ⟨zb,0,none⟩),.pointer (some ⟨xb,0,none⟩)] w (zfp w zb (-x)):=by
 obtain⟨ng,l,n,q,c,hr,hl,hcl,hn,hsg,hab,hng,hnl⟩:=hx.parts hs;have HR:=zh hr;have HL:=zh hl;have HCL:=zh hcl;have HSG:=zh hsg;have HAB:=zh hab;have HNL:=zh hnl;have HZ:=zh hz;clear hx hs hr hl hcl hsg hab hng hnl hz
 go_in
 go_wp2_with fail;obtain⟨V,hV⟩:=nm (w.drew);have HVS:=zh (show V.heap.size=w.heap.size by rw[hV];rfl);have HV:=zh (show Below w.heap.size w V by rw[hV];exact zaf (Below.refl _ w));have HRV:=zh (HR.o.below HV.o);refine Late.region (fun w'=>RowAt w' xb [.bool ng,.slice q n c]) (fun j=>decide (11<=j)) rfl ?_;rw[<-hV];clear hV;refine Late.tb (i:=0) (v:=?_) ?_ HRV.o ?_;rotate_left
 ·intro w' hS;clear hS;go_simp;rfl
 refine Late.tb (i:=1) (v:=?_) ?_ HRV.o ?_;rotate_left
 ·intro w' hS;clear hS;go_simp;rfl
 refine Late.tb (i:=2) (v:=?_) ?_ HRV.o ?_;rotate_left
 ·intro w' hS;clear hS;go_simp;rfl
 refine Late.tb (i:=3) (v:=?_) ?_ HRV.o ?_;rotate_left
 ·intro w' hS;clear hS;go_simp;rfl
 refine Late.tb (i:=4) (v:=?_) ?_ HRV.o ?_;rotate_left
 ·intro w' hS;have p0:=hS 0 _ rfl;clear hS;go_simp;rfl
 refine Late.tb (i:=5) (v:=?_) ?_ HRV.o ?_;rotate_left
 ·intro w' hS;clear hS;go_simp;rfl
 refine Late.tb (i:=6) (v:=?_) ?_ HRV.o ?_;rotate_left
 ·intro w' hS;clear hS;go_simp;rfl
 refine Late.tb (i:=7) (v:=?_) ?_ HRV.o ?_;rotate_left
 ·intro w' hS;clear hS;go_simp;rfl
 refine Late.tb (i:=8) (v:=?_) ?_ HRV.o ?_;rotate_left
 ·intro w' hS;clear hS;go_simp;rfl
 refine Late.tb (i:=9) (v:=?_) ?_ HRV.o ?_;rotate_left
 ·intro w' hS;have p1:=hS 1 _ rfl;clear hS;go_simp;rfl
 refine Late.on (i:=10) fun K hK=>?_;go_simp;refine(zi9 (HL.o.below (w':=V) (Below.mono HV.o (Nat.le_refl _))) HCL.o (by omega)).mono ?_;rintro e w1 ⟨hb,l1,q1,c1,rfl,h1,h2,h3⟩;rw[HVS.o] at h1;have HB1:=zh (HV.o.trans (hb.mono HV.o.size));have HH1:=zh h1;have HH2:=zh h2;have HH3:=zh h3;have HR1:=zh (HRV.o.below hb);clear hb h1 h2 h3;refine hK _ _ (fun _=>HR1.o) ?_;clear hK K;refine Late.on (i:=11) fun K hK=>?_;go_simp;refine(zdZ HZ.o HB1.o (!ng) HH1.o HH2.o (z:=-x) (by rw[HH3.o,<-HSG.o];unfold zdc;cases ng <;> simp)).mono ?_;rintro e w2 ⟨rfl,h4,h5⟩;have H4:=zh h4;have H5:=zh h5;clear h4 h5;refine hK _ _ (fun h=>by cases h) ?_;clear hK K;refine Late.on (i:=12) fun K hK=>?_;go_simp;refine hK _ _ (fun h=>by cases h) ?_;clear hK K;refine Late.done (by kernel_rfl) ?_ _;go_wp2_with fail;go_ret;exact⟨rfl,H4.o,H5.o⟩
theorem zb2 {S:Nat->Prop}{w:World}{zb xb:Nat}{u0 u1:Value}{x:Int}(hz:BoxN w zb 93 [u0,u1])(hx:IntAt S w xb x)(hs:zaR x)(sh:Nat)(hsh:sh<=10000) :
  Calls Tryz.prog 147 #[.pointer (some ⟨zb,0,none⟩),.pointer (some ⟨xb,0,none⟩),.int .u64 (sh:Int)] w (zfp w zb (x*2 ^ sh)):=by
 obtain⟨ng,l,n,q,c,hr,hl,hcl,hn,hsg,hab,hng,hnl⟩:=hx.parts hs;have HR:=zh hr;have HL:=zh hl;have HCL:=zh hcl;have HSG:=zh hsg;have HAB:=zh hab;have HNL:=zh hnl;have HZ:=zh hz;clear hx hs hr hl hcl hsg hab hng hnl hz
 go_in
 go_wp2_with fail;obtain⟨V,hV⟩:=nm (w.drew);have HVS:=zh (show V.heap.size=w.heap.size by rw[hV];rfl);have HV:=zh (show Below w.heap.size w V by rw[hV];exact zaf (Below.refl _ w));have HRV:=zh (HR.o.below HV.o);refine Late.region (fun w'=>RowAt w' xb [.bool ng,.slice q n c]) (fun j=>decide (11<=j)) rfl ?_;rw[<-hV];clear hV;refine Late.tb (i:=0) (v:=?_) ?_ HRV.o ?_;rotate_left
 ·intro w' hS;clear hS;go_simp;rfl
 refine Late.tb (i:=1) (v:=?_) ?_ HRV.o ?_;rotate_left
 ·intro w' hS;clear hS;go_simp;rfl
 refine Late.tb (i:=2) (v:=?_) ?_ HRV.o ?_;rotate_left
 ·intro w' hS;clear hS;go_simp;rfl
 refine Late.tb (i:=3) (v:=?_) ?_ HRV.o ?_;rotate_left
 ·intro w' hS;clear hS;go_simp;rfl
 refine Late.tb (i:=4) (v:=?_) ?_ HRV.o ?_;rotate_left
 ·intro w' hS;have p0:=hS 0 _ rfl;clear hS;go_simp;rfl
 refine Late.tb (i:=5) (v:=?_) ?_ HRV.o ?_;rotate_left
 ·intro w' hS;clear hS;go_simp;rfl
 refine Late.tb (i:=6) (v:=?_) ?_ HRV.o ?_;rotate_left
 ·intro w' hS;clear hS;go_simp;rfl
 refine Late.tb (i:=7) (v:=?_) ?_ HRV.o ?_;rotate_left
 ·intro w' hS;clear hS;go_simp;rfl
 refine Late.tb (i:=8) (v:=?_) ?_ HRV.o ?_;rotate_left
 ·intro w' hS;have p1:=hS 1 _ rfl;clear hS;go_simp;rfl
 refine Late.tb (i:=9) (v:=?_) ?_ HRV.o ?_;rotate_left
 ·intro w' hS;clear hS;go_simp;rfl
 refine Late.on (i:=10) fun K hK=>?_;go_simp;refine(znA (HL.o.below (w':=V) (Below.mono HV.o (Nat.le_refl _))) HCL.o.1 (by omega) sh hsh).mono ?_;rintro e w1 ⟨hb,l1,q1,c1,rfl,h1,h2,h3⟩;rw[HVS.o] at h1;have HB1:=zh (HV.o.trans (hb.mono HV.o.size));have HH1:=zh h1;have HH2:=zh h2;have HH3:=zh h3;have HR1:=zh (HRV.o.below hb);clear hb h1 h2 h3;refine hK _ _ (fun _=>HR1.o) ?_;clear hK K;refine Late.on (i:=11) fun K hK=>?_;go_simp;refine(zdZ HZ.o HB1.o ng HH1.o HH2.o (z:=x*2 ^ sh) (by rw[HH3.o,<-HSG.o];unfold zdc;cases ng <;> simp[Int.natCast_mul,Int.natCast_pow,Int.neg_mul])).mono ?_;rintro e w2 ⟨rfl,h4,h5⟩;have H4:=zh h4;have H5:=zh h5;clear h4 h5;refine hK _ _ (fun h=>by cases h) ?_;clear hK K;refine Late.on (i:=12) fun K hK=>?_;go_simp;refine hK _ _ (fun h=>by cases h) ?_;clear hK K;refine Late.done (by kernel_rfl) ?_ _;go_wp2_with fail;go_ret;exact⟨rfl,H4.o,H5.o⟩
theorem zbu {S T:Nat->Prop}{w:World}{zb xb yb:Nat}{u0 u1:Value}{x y:Int}(hz:BoxN w zb 93 [u0,u1])(hx:IntAt S w xb x)(hs:zaR x)(hy:IntAt T w yb y)(ht:zaR y) :
  Calls Tryz.prog 145 #[.pointer (some ⟨zb,0,none⟩),.pointer (some ⟨xb,0,none⟩),.pointer (some ⟨yb,0,none⟩)] w (zfp w zb (x+y)):=by
 obtain⟨ng,l,n,q,c,hr,hl,hcl,hn,hsg,hab,hng,hnl⟩:=hx.parts hs;obtain⟨mg,m,k,p,d,hr',hl',hcl',hn',hsg',hab',hng',hnl'⟩:=hy.parts ht;have HR:=zh hr;have HRY:=zh hr';have HL:=zh hl;have HM:=zh hl';have HCL:=zh hcl;have HCM:=zh hcl';have HSG:=zh hsg;have HSM:=zh hsg';have HZ:=zh hz;clear hx hs hr hl hcl hsg hab hng hnl hz hy ht hr' hl' hcl' hsg' hab' hng' hnl'
 go_in
 go_wp2_with fail;obtain⟨V,hV⟩:=nm (w.drew);have HVS:=zh (show V.heap.size=w.heap.size by rw[hV];rfl);have HV:=zh (show Below w.heap.size w V by rw[hV];exact zaf (Below.refl _ w));have HRV:=zh (show RowAt V xb [.bool ng,.slice q n c]/\RowAt V yb [.bool mg,.slice p k d] from⟨HR.o.below HV.o,HRY.o.below HV.o⟩);refine Late.region (fun w'=>RowAt w' xb [.bool ng,.slice q n c]/\RowAt w' yb [.bool mg,.slice p k d]) (fun j=>decide (20<=j)) rfl ?_;rw[<-hV];clear hV;refine Late.tb (i:=0) (v:=?_) ?_ HRV.o ?_;rotate_left
 ·intro w' hS;clear hS;go_simp;rfl
 refine Late.tb (i:=1) (v:=?_) ?_ HRV.o ?_;rotate_left
 ·intro w' hS;clear hS;go_simp;rfl
 refine Late.tb (i:=2) (v:=?_) ?_ HRV.o ?_;rotate_left
 ·intro w' hS;clear hS;go_simp;rfl
 refine Late.tb (i:=3) (v:=?_) ?_ HRV.o ?_;rotate_left
 ·intro w' hS;clear hS;go_simp;rfl
 refine Late.tb (i:=4) (v:=?_) ?_ HRV.o ?_;rotate_left
 ·intro w' hS;have p0:=hS.1 0 _ rfl;clear hS;go_simp;rfl
 refine Late.tb (i:=5) (v:=?_) ?_ HRV.o ?_;rotate_left
 ·intro w' hS;clear hS;go_simp;rfl
 refine Late.tb (i:=6) (v:=?_) ?_ HRV.o ?_;rotate_left
 ·intro w' hS;clear hS;go_simp;rfl
 refine Late.tb (i:=7) (v:=?_) ?_ HRV.o ?_;rotate_left
 ·intro w' hS;clear hS;go_simp;rfl
 refine Late.tb (i:=8) (v:=?_) ?_ HRV.o ?_;rotate_left
 ·intro w' hS;have p1:=hS.1 1 _ rfl;clear hS;go_simp;rfl
 refine Late.tb (i:=9) (v:=?_) ?_ HRV.o ?_;rotate_left
 ·intro w' hS;clear hS;go_simp;rfl
 refine Late.tb (i:=10) (v:=?_) ?_ HRV.o ?_;rotate_left
 ·intro w' hS;clear hS;go_simp;rfl
 refine Late.tb (i:=11) (v:=?_) ?_ HRV.o ?_;rotate_left
 ·intro w' hS;clear hS;go_simp;rfl
 refine Late.tb (i:=12) (v:=?_) ?_ HRV.o ?_;rotate_left
 ·intro w' hS;have p0:=hS.2 0 _ rfl;clear hS;go_simp;rfl
 refine Late.tb (i:=13) (v:=?_) ?_ HRV.o ?_;rotate_left
 ·intro w' hS;clear hS;go_simp;rfl
 refine Late.tb (i:=14) (v:=?_) ?_ HRV.o ?_;rotate_left
 ·intro w' hS;clear hS;go_simp;rfl
 refine Late.tb (i:=15) (v:=?_) ?_ HRV.o ?_;rotate_left
 ·intro w' hS;clear hS;go_simp;rfl
 refine Late.tb (i:=16) (v:=?_) ?_ HRV.o ?_;rotate_left
 ·intro w' hS;have p1:=hS.2 1 _ rfl;clear hS;go_simp;rfl
 refine Late.on (i:=17) fun K hK=>?_;go_simp;refine(zkd ng mg (HL.o.below (w':=V) (Below.mono HV.o (Nat.le_refl _))) (HM.o.below (w':=V) (Below.mono HV.o (Nat.le_refl _))) HCL.o HCM.o (by omega) (by omega)).mono ?_;rintro e w1 ⟨hb,g,l1,q1,c1,rfl,h1,h2,h3⟩;rw[HVS.o] at h1;have HB1:=zh (HV.o.trans (hb.mono HV.o.size));have HH1:=zh h1;have HH2:=zh h2;have HH3:=zh h3;have HR1:=zh (show RowAt w1 xb [.bool ng,.slice q n c]/\RowAt w1 yb [.bool mg,.slice p k d] from⟨HRV.o.1.below hb,HRV.o.2.below hb⟩);clear hb h1 h2 h3;refine hK _ _ (fun _=>HR1.o) ?_;clear hK K;refine Late.tb (i:=18) (v:=?_) ?_ HR1.o ?_;rotate_left
 ·intro w' hS;clear hS;go_simp;rfl
 refine Late.tb (i:=19) (v:=?_) ?_ HR1.o ?_;rotate_left
 ·intro w' hS;clear hS;go_simp;rfl
 refine Late.on (i:=20) fun K hK=>?_;go_simp;refine(zdZ HZ.o HB1.o g HH1.o HH2.o (z:=x+y) (by rw[HH3.o,HSG.o,HSM.o])).mono ?_;rintro e w2 ⟨rfl,h4,h5⟩;have H4:=zh h4;have H5:=zh h5;clear h4 h5;refine hK _ _ (fun h=>by cases h) ?_;clear hK K;refine Late.on (i:=21) fun K hK=>?_;go_simp;refine hK _ _ (fun h=>by cases h) ?_;clear hK K;refine Late.done (by kernel_rfl) ?_ _;go_wp2_with fail;go_ret;exact⟨rfl,H4.o,H5.o⟩
theorem zlw {S T:Nat->Prop}{w:World}{zb xb yb:Nat}{u0 u1:Value}{x y:Int}(hz:BoxN w zb 93 [u0,u1])(hx:IntAt S w xb x)(hs:zaR x)(hy:IntAt T w yb y)(ht:zaR y) :
  Calls Tryz.prog 159 #[.pointer (some ⟨zb,0,none⟩),.pointer (some ⟨xb,0,none⟩),.pointer (some ⟨yb,0,none⟩)] w (zfp w zb (x-y)):=by
 obtain⟨ng,l,n,q,c,hr,hl,hcl,hn,hsg,hab,hng,hnl⟩:=hx.parts hs;obtain⟨mg,m,k,p,d,hr',hl',hcl',hn',hsg',hab',hng',hnl'⟩:=hy.parts ht;have HR:=zh hr;have HRY:=zh hr';have HL:=zh hl;have HM:=zh hl';have HCL:=zh hcl;have HCM:=zh hcl';have HSG:=zh hsg;have HSM:=zh hsg';have HZ:=zh hz;clear hx hs hr hl hcl hsg hab hng hnl hz hy ht hr' hl' hcl' hsg' hab' hng' hnl'
 go_in
 go_wp2_with fail;obtain⟨V,hV⟩:=nm (w.drew);have HVS:=zh (show V.heap.size=w.heap.size by rw[hV];rfl);have HV:=zh (show Below w.heap.size w V by rw[hV];exact zaf (Below.refl _ w));have HRV:=zh (show RowAt V xb [.bool ng,.slice q n c]/\RowAt V yb [.bool mg,.slice p k d] from⟨HR.o.below HV.o,HRY.o.below HV.o⟩);refine Late.region (fun w'=>RowAt w' xb [.bool ng,.slice q n c]/\RowAt w' yb [.bool mg,.slice p k d]) (fun j=>decide (21<=j)) rfl ?_;rw[<-hV];clear hV;refine Late.tb (i:=0) (v:=?_) ?_ HRV.o ?_;rotate_left
 ·intro w' hS;clear hS;go_simp;rfl
 refine Late.tb (i:=1) (v:=?_) ?_ HRV.o ?_;rotate_left
 ·intro w' hS;clear hS;go_simp;rfl
 refine Late.tb (i:=2) (v:=?_) ?_ HRV.o ?_;rotate_left
 ·intro w' hS;clear hS;go_simp;rfl
 refine Late.tb (i:=3) (v:=?_) ?_ HRV.o ?_;rotate_left
 ·intro w' hS;clear hS;go_simp;rfl
 refine Late.tb (i:=4) (v:=?_) ?_ HRV.o ?_;rotate_left
 ·intro w' hS;have p0:=hS.1 0 _ rfl;clear hS;go_simp;rfl
 refine Late.tb (i:=5) (v:=?_) ?_ HRV.o ?_;rotate_left
 ·intro w' hS;clear hS;go_simp;rfl
 refine Late.tb (i:=6) (v:=?_) ?_ HRV.o ?_;rotate_left
 ·intro w' hS;clear hS;go_simp;rfl
 refine Late.tb (i:=7) (v:=?_) ?_ HRV.o ?_;rotate_left
 ·intro w' hS;clear hS;go_simp;rfl
 refine Late.tb (i:=8) (v:=?_) ?_ HRV.o ?_;rotate_left
 ·intro w' hS;have p1:=hS.1 1 _ rfl;clear hS;go_simp;rfl
 refine Late.tb (i:=9) (v:=?_) ?_ HRV.o ?_;rotate_left
 ·intro w' hS;clear hS;go_simp;rfl
 refine Late.tb (i:=10) (v:=?_) ?_ HRV.o ?_;rotate_left
 ·intro w' hS;clear hS;go_simp;rfl
 refine Late.tb (i:=11) (v:=?_) ?_ HRV.o ?_;rotate_left
 ·intro w' hS;clear hS;go_simp;rfl
 refine Late.tb (i:=12) (v:=?_) ?_ HRV.o ?_;rotate_left
 ·intro w' hS;have p0:=hS.2 0 _ rfl;clear hS;go_simp;rfl
 refine Late.tb (i:=13) (v:=?_) ?_ HRV.o ?_;rotate_left
 ·intro w' hS;clear hS;go_simp;rfl
 refine Late.tb (i:=14) (v:=?_) ?_ HRV.o ?_;rotate_left
 ·intro w' hS;clear hS;go_simp;rfl
 refine Late.tb (i:=15) (v:=?_) ?_ HRV.o ?_;rotate_left
 ·intro w' hS;clear hS;go_simp;rfl
 refine Late.tb (i:=16) (v:=?_) ?_ HRV.o ?_;rotate_left
 ·intro w' hS;clear hS;go_simp;rfl
 refine Late.tb (i:=17) (v:=?_) ?_ HRV.o ?_;rotate_left
 ·intro w' hS;have p1:=hS.2 1 _ rfl;clear hS;go_simp;rfl
 refine Late.on (i:=18) fun K hK=>?_;go_simp;refine(zkd ng (!mg) (HL.o.below (w':=V) (Below.mono HV.o (Nat.le_refl _))) (HM.o.below (w':=V) (Below.mono HV.o (Nat.le_refl _))) HCL.o HCM.o (by omega) (by omega)).mono ?_;rintro e w1 ⟨hb,g,l1,q1,c1,rfl,h1,h2,h3⟩;rw[HVS.o] at h1;have HB1:=zh (HV.o.trans (hb.mono HV.o.size));have HH1:=zh h1;have HH2:=zh h2;have HH3:=zh h3;have HR1:=zh (show RowAt w1 xb [.bool ng,.slice q n c]/\RowAt w1 yb [.bool mg,.slice p k d] from⟨HRV.o.1.below hb,HRV.o.2.below hb⟩);clear hb h1 h2 h3;refine hK _ _ (fun _=>HR1.o) ?_;clear hK K;refine Late.tb (i:=19) (v:=?_) ?_ HR1.o ?_;rotate_left
 ·intro w' hS;clear hS;go_simp;rfl
 refine Late.tb (i:=20) (v:=?_) ?_ HR1.o ?_;rotate_left
 ·intro w' hS;clear hS;go_simp;rfl
 refine Late.on (i:=21) fun K hK=>?_;go_simp;refine(zdZ HZ.o HB1.o g HH1.o HH2.o (z:=x-y) (by rw[HH3.o,HSG.o,<-HSM.o];unfold zdc;cases mg <;> simp[Int.sub_eq_add_neg])).mono ?_;rintro e w2 ⟨rfl,h4,h5⟩;have H4:=zh h4;have H5:=zh h5;clear h4 h5;refine hK _ _ (fun h=>by cases h) ?_;clear hK K;refine Late.on (i:=22) fun K hK=>?_;go_simp;refine hK _ _ (fun h=>by cases h) ?_;clear hK K;refine Late.done (by kernel_rfl) ?_ _;go_wp2_with fail;go_ret;exact⟨rfl,H4.o,H5.o⟩
theorem zhB {w:World}{x:Nat}(hx:x<18446744073709551616):Calls Tryz.prog 154 #[.int .u64 (x:Int)] w (zcC w x):=by
 refine(zmt (lo:=x % 4294967296) (hi:=x / 4294967296) (by omega) (by omega) (by omega)).mono ?_;intro e w1 h;have h2:=h.num (zra (by omega) (by omega));have e2:zag [x % 4294967296,x / 4294967296]=x:=by simp only[zag];omega
 rwa [e2] at h2
theorem zen (x:Int):IntKind.u64.wrap x=x % 18446744073709551616:=by
 simp[IntKind.wrap,IntKind.bits,IntKind.signed]
theorem zb0 {w:World}{zb:Nat}{u0 u1:Value}(hz:BoxN w zb 93 [u0,u1]){x:Nat}(hx:x<18446744073709551616) :
  Calls Tryz.prog 146 #[.pointer (some ⟨zb,0,none⟩),.int .u64 (x:Int)] w (zfp w zb x):=by
 have HZ:=zh hz;have HN:=zh (zhB (w:=w) hx);have hxI:(x:Int)<18446744073709551616:=by omega
 clear hz hx
 go_in
 go_wp2_with fail;refine HN.o.mono ?_;rintro e w1 ⟨hb,l1,q1,c1,rfl,h1,h2,h3⟩;have HB1:=zh hb;have HH1:=zh h1;have HH2:=zh h2;have HH3:=zh h3;clear hb h1 h2 h3;go_wp2_with fail;refine(zdZ HZ.o HB1.o false HH1.o HH2.o (z:=x) (by rw[HH3.o];rfl)).mono ?_;rintro e w2 ⟨rfl,h4,h5⟩;have H4:=zh h4;have H5:=zh h5;clear h4 h5;go_wp2_with fail;go_ret;exact⟨rfl,H4.o,H5.o⟩
theorem znE {w:World}{zb:Nat}{u0 u1:Value}(hz:BoxN w zb 93 [u0,u1]){x:Int}(hx:zah x) :
  Calls Tryz.prog 168 #[.pointer (some ⟨zb,0,none⟩),.int .i64 x] w (zfp w zb x):=by
 have HZ:=zh hz;have HN:=zh (zhB (w:=w) (x:=x.natAbs) (by unfold zah at hx;omega));have hx1:-9223372036854775808<=x:=hx.1;have hx2:x<=9223372036854775807:=hx.2;clear hz hx;by_cases h0:x<0
 ·have HA:Hid ((x.natAbs:Int)=-x):=zh (by omega);have HW:Hid (IntKind.u64.wrap (-IntKind.u64.wrap x)=(x.natAbs:Int)):=zh (by rw[zen,zen];omega);have hb:decide (x<0)=true:=by simpa using h0
  go_in
  go_wp2_with fail;rw[HW.o];refine HN.o.mono ?_;rintro e w1 ⟨hb,l1,q1,c1,rfl,h1,h2,h3⟩;have HB1:=zh hb;have HH1:=zh h1;have HH2:=zh h2;have HH3:=zh h3;clear hb h1 h2 h3;go_wp2_with fail;refine(zdZ HZ.o HB1.o true HH1.o HH2.o (z:=x) (by rw[HH3.o];unfold zdc;rw[if_pos rfl];rw[HA.o];omega)).mono ?_;rintro e w2 ⟨rfl,h4,h5⟩;have H4:=zh h4;have H5:=zh h5;clear h4 h5;go_wp2_with fail;go_ret;exact⟨rfl,H4.o,H5.o⟩
 ·have HA:Hid ((x.natAbs:Int)=x):=zh (by omega);have HW:Hid (IntKind.u64.wrap x=(x.natAbs:Int)):=zh (by rw[zen];omega);have hb:decide (x<0)=false:=by simpa using h0
  go_in
  go_wp2_with fail;rw[HA.o] at HN;refine HN.o.mono ?_;rintro e w1 ⟨hb,l1,q1,c1,rfl,h1,h2,h3⟩;have HB1:=zh hb;have HH1:=zh h1;have HH2:=zh h2;have HH3:=zh h3;clear hb h1 h2 h3;go_wp2_with fail;refine(zdZ HZ.o HB1.o false HH1.o HH2.o (z:=x) (by rw[HH3.o];unfold zdc;rw[if_neg (by simp)];rw[HA.o])).mono ?_;rintro e w2 ⟨rfl,h4,h5⟩;have H4:=zh h4;have H5:=zh h5;clear h4 h5;go_wp2_with fail;go_ret;exact⟨rfl,H4.o,H5.o⟩
def zqQ (w:World)(z:Int)(e:Ending)(w':World):Prop:=Below w.heap.size w w'/\∃zb,w.heap.size<=zb/\e=.returned (.pointer (some ⟨zb,0,none⟩))/\IntAt (fun b=>w.heap.size<=b) w' zb z
theorem zhC {w:World}{x:Int}(hx:zah x):Calls Tryz.prog 161 #[.int .i64 x] w (zqQ w x):=by
 obtain⟨W1,hW,a0,hBW⟩:=zao w 93 [.bool false,.slice none 0 0];have HW:=zh hW;have HS:=zh (znE a0 hx);have HB:=zh hBW;clear a0 hBW hW;have hx1:-9223372036854775808<=x:=hx.1;have hx2:x<=9223372036854775807:=hx.2;clear hx
 go_in
 go_wp2_with fail;rw[show w.alloc (Obj.cells #[.bool false,.slice none 0 0] 93)=W1 from HW.o.symm];refine HS.o.mono ?_;rintro e W2 ⟨rfl,h4,h5⟩;have HB2:=zh (show Below w.heap.size w W2 from HB.o.grown h4 HB.o.size (fun k e=>by cases e;exact Nat.le_refl _));have H5:=zh (h5.mono (T:=fun b=>w.heap.size<=b) (fun b h=>Nat.le_trans HB.o.size h));clear h4 h5;go_wp2_with fail;go_ret;exact⟨HB2.o,_,Nat.le_refl _,rfl,H5.o⟩
theorem zrc {x:Int}{l:List Nat}{n:Nat}(hab:zag l=x.natAbs)(hcl:zbT l)(hn:n=l.length):n=0↔x=0:=by
 have h:=zj8 hcl;rw[hab] at h;subst hn;constructor
 ·intro e;have:=h.2 (List.eq_nil_of_length_eq_zero e);omega
 ·intro e;rw[h.1 (by omega)];rfl
def zd8 (x:Int):Int:=if x<0 then -1 else if x=0 then 0 else 1
theorem znF {S:Nat->Prop}{w:World}{xb:Nat}{x:Int}(hx:IntAt S w xb x)(hs:zaR x):Calls Tryz.prog 149 #[.pointer (some ⟨xb,0,none⟩)] w (zaz w (.int .i64 (zd8 x))):=by
 obtain⟨ng,l,n,q,c,hr,hl,hcl,hn,hsg,hab,hng,hnl⟩:=hx.parts hs;have p0:=hr 0 _ rfl;have p1:=hr 1 _ rfl;have hz:=zrc hab hcl hnl;by_cases h0:x=0
 ·have hn0:=hz.2 h0;have HE:=zh (show zd8 x=0 by rw[h0];rfl);rw[HE.o];subst hn0;clear hx hs hr hl hcl hsg hab hng hnl hz h0 hn HE
  go_in
  go_wp2_with fail;go_ret;exact⟨rfl,rfl⟩
 ·have hn0:¬n=0:=fun e=>h0 (hz.1 e);have hb:((n:Int) == 0)=false:=by simp;omega
  cases ng with
  | true=>
   have HE:=zh (show zd8 x=-1 by unfold zd8;rw[if_pos (by simpa using hng.symm)]);rw[HE.o];clear hx hs hr hl hcl hsg hab hng hnl hz h0 HE
   go_in
   go_wp2_with fail;go_ret;exact⟨rfl,rfl⟩
  | false=>
   have HE:=zh (show zd8 x=1 by unfold zd8;rw[if_neg (by simpa using hng.symm),if_neg h0]);rw[HE.o];clear hx hs hr hl hcl hsg hab hng hnl hz h0 HE
   go_in
   go_wp2_with fail;go_ret;exact⟨rfl,rfl⟩
theorem zlx {S:Nat->Prop}{w:World}{xb:Nat}{x:Int}(hx:IntAt S w xb x)(hs:zaR x):Calls Tryz.prog 156 #[.pointer (some ⟨xb,0,none⟩)] w (zaz w (.int .i64 (zdb x.natAbs))):=by
 obtain⟨ng,l,n,q,c,hr,hl,hcl,hn,hsg,hab,hng,hnl⟩:=hx.parts hs;have p0:=hr 0 _ rfl;have p1:=hr 1 _ rfl;rw[<-hab];have HL:=zh (zfA hl hcl (by omega));clear hx hs hr hl hcl hsg hab hng hnl;obtain⟨B,hB⟩:=nm (zdb (zag l));rw[<-hB] at HL ⊢;clear hB
 go_in
 go_wp2_with fail;refine HL.o.mono ?_;rintro e w1 ⟨rfl,rfl⟩;go_wp2_with fail;go_ret;exact⟨rfl,rfl⟩
theorem zqR {a:Nat}(h:a<4294967296):zag [a] % 18446744073709551616=a:=by simp only[zag];omega
theorem zqS {a b:Nat}{r:List Nat}(h:a<4294967296)(h2:b<4294967296):zag (a :: b :: r) % 18446744073709551616=a+4294967296*b:=by simp only[zag];omega
theorem zqT {a b:Nat}(hx:a<4294967296)(hy:b<4294967296):bits .or .u64 (a:Int) ((b:Int)*4294967296)=((a+4294967296*b:Nat):Int):=by
 obtain⟨T,-,h,-,-,-,e,-⟩:=zlv (s:=0) hx hy (by decide);rw[h,e]
theorem zeD {S:Nat->Prop}{w:World}{xb:Nat}{x:Int}(hx:IntAt S w xb x)(hs:zaR x):Calls Tryz.prog 157 #[.pointer (some ⟨xb,0,none⟩)] w (zaz w (.int .u64 ((x.natAbs % 18446744073709551616:Nat):Int))):=by
 obtain⟨ng,l,n,q,c,hr,hl,hcl,hn,hsg,hab,hng,hnl⟩:=hx.parts hs;have p1:=hr 1 _ rfl;rw[<-hab];obtain⟨R,hR⟩:=nm (zag l % 18446744073709551616);rw[<-hR];have HR:=zh hR;rcases l with _|⟨a,_|⟨b2,r⟩⟩
 ·
  have HE:=zh (show R=0 by rw[HR.o];rfl);have g0:decide ((n:Int) > 0)=false:=by rw[hnl];rfl
  have g1:decide ((n:Int) > 1)=false:=by rw[hnl];rfl
  have hn1:(n:Int)<=0:=by rw[hnl];simp
  clear hx hs hr hl hcl hsg hab hng hn hR HR hnl
  go_in
  go_wp2_with fail;rw[HE.o];go_ret;exact⟨rfl,rfl⟩
 ·
  have ha:a<4294967296:=hcl.1 a (by simp);obtain⟨b,o,rfl,-,s0⟩:=zbq hl 0 (by simp);have HE:=zh (show R=a by rw[HR.o];exact zqR ha);have haI:(a:Int)<4294967296:=by omega
  have g0:decide ((n:Int) > 0)=true:=by rw[hnl];rfl
  have g1:decide ((n:Int) > 1)=false:=by rw[hnl];rfl
  have hn1:0<n:=by rw[hnl];simp
  have hn2:(n:Int)<=1:=by rw[hnl];simp
  have s0':w.cell? ⟨b,o,none⟩=some (.int .u32 (a:Int)):=s0;clear hx hs hr hl hcl hsg hab hng hn hR HR hnl s0
  go_in
  go_wp2_with fail;rw[HE.o];go_ret;exact⟨rfl,rfl⟩
 ·
  have ha:a<4294967296:=hcl.1 a (by simp);have hb2:b2<4294967296:=hcl.1 b2 (by simp);obtain⟨b,o,rfl,-,s0⟩:=zbq hl 0 (by simp);obtain⟨b',o',e,-,s1⟩:=zbq hl 1 (by simp);cases e;have HE:=zh (show(R:Int)=((a+4294967296*b2:Nat):Int) by rw[HR.o];rw[zqS ha hb2]);have HO:=zh (zqT ha hb2);have haI:(a:Int)<4294967296:=by omega
  have hbI:(b2:Int)<4294967296:=by omega
  have s0':w.cell? ⟨b,o,none⟩=some (.int .u32 (a:Int)):=s0;have s1':w.cell? ⟨b,o+1,none⟩=some (.int .u32 (b2:Int)):=s1;have g0:decide ((n:Int) > 0)=true:=by rw[hnl];simp;omega
  have g1:decide ((n:Int) > 1)=true:=by rw[hnl];simp;omega
  have hnI:1<n:=by rw[hnl];simp
  have hn0:0<n:=by omega
  clear hx hs hr hl hcl hsg hab hng hR HR hnl s0 s1
  go_in
  go_wp2_with fail;rw[HE.o,<-HO.o];go_ret;exact⟨rfl,rfl⟩
theorem zqe:(2:Nat) ^ 64=18446744073709551616:=by decide
theorem zeX {v k:Nat}:zdb v<=k↔v<2 ^ k:=by
 unfold zdb;by_cases hv:v=0
 ·rw[if_pos hv,hv];exact⟨fun _=>Nat.pow_pos (by decide),fun _=>Nat.zero_le _⟩
 ·rw[if_neg hv];exact Nat.log2_lt hv
theorem zgH {x:Int}(hs:zaR x):zdb x.natAbs<=3200:=by
 obtain⟨k,hk,h⟩:=hs;exact Nat.le_trans (zeX.2 h) (by omega)
theorem zoL {S:Nat->Prop}{w:World}{xb:Nat}{x:Int}(hx:IntAt S w xb x)(hs:zaR x):Calls Tryz.prog 174 #[.pointer (some ⟨xb,0,none⟩)] w (zaz w (.bool (decide (0<=x/\x<18446744073709551616)))):=by
 obtain⟨ng,l,n,q,c,hr,hl,hcl,hn,hsg,hab,hng,hnl⟩:=hx.parts hs;have p0:=hr 0 _ rfl;have p1:=hr 1 _ rfl;have HL:=zh (zfA hl hcl (by omega));rw[hab] at HL;have hB0:=zgH hs;obtain⟨B,hB⟩:=nm (zdb x.natAbs);rw[<-hB] at HL hB0;have HB:Hid (B<=64↔x.natAbs<18446744073709551616):=zh (by rw[hB,zeX,zqe]);have HNG:=zh hng;clear hx hs hr hl hcl hsg hab hnl hB hng;cases ng with
 | true=>
  have HE:=zh (show decide (0<=x/\x<18446744073709551616)=false by have:=HNG.o;simp at this ⊢;omega);rw[HE.o];clear HNG HE HB
  go_in
  go_wp2_with fail;go_ret;exact⟨rfl,rfl⟩
 | false=>
  have HE:=zh (show decide (0<=x/\x<18446744073709551616)=decide (B<=64) by have:=HNG.o;have h2:=HB.o;simp at this;rw[Bool.eq_iff_iff];simp;omega);rw[HE.o];clear HNG HE HB
  go_in
  go_wp2_with fail;refine HL.o.mono ?_;rintro e w1 ⟨rfl,rfl⟩;by_cases hle:B<=64
  ·have hb:decide ((B:Int)<=64)=true:=by simp;omega
   have HE:=zh (show decide (B<=64)=true by simpa using hle);go_wp2_with fail;rw[HE.o];go_ret;exact⟨rfl,rfl⟩
  ·have hb:decide ((B:Int)<=64)=false:=by simp;omega
   have HE:=zh (show decide (B<=64)=false by simpa using hle);go_wp2_with fail;rw[HE.o];go_ret;exact⟨rfl,rfl⟩
theorem zqU {A:Nat}(h:A<18446744073709551616):bits .and .u64 (A:Int) 1=((A % 2:Nat):Int):=by
 have h1:=u64_and_nat A 1 h (by decide);rw[Nat.and_one_is_mod] at h1;exact h1
theorem zpU {l:List Nat}(h:za3 l){k s:Nat}(hk:k<l.length)(hs:s<32):zag l / 2 ^ (32*k+s) % 2=l[k] / 2 ^ s % 2:=by
 have e:32=s+(1+(31-s)):=by omega
 rw[Nat.pow_add,<-Nat.div_div_eq_div_mul,zhz h k (by omega),List.drop_eq_getElem_cons hk];show(l[k]+4294967296*zag (l.drop (k+1))) / 2 ^ s % 2=_;generalize zag (l.drop (k+1))=R;have e2:4294967296*R=2 ^ s*(2*(2 ^ (31-s)*R)):=by
  rw[<-Nat.mul_assoc,<-Nat.mul_assoc,<-Nat.pow_succ,<-Nat.pow_add,show s+1+(31-s)=32 by omega]
 rw[e2,Nat.add_mul_div_left _ _ (Nat.pow_pos (by decide)),Nat.add_mul_mod_self_left]
theorem zqV {x s:Nat}:(x:Int) / 2 ^ s=((x / 2 ^ s:Nat):Int):=by
 obtain⟨P,hP⟩:=nm (2 ^ s);have hcast:((2:Int) ^ s)=(P:Int):=by rw[hP];push_cast;rfl
 rw[hcast,<-hP,<-Int.natCast_ediv]
theorem zly {w:World}{l:List Nat}{p:Option Addr}{n c:Nat}(hl:M.At (fun _=>True) w (zaV l) (.slice p n c))(hcl:za3 l)(hn4:n<=1000)(i:Nat)(hi:i<=100000) :
  Calls Tryz.prog 178 #[.slice p n c,.int .i64 (i:Int)] w (zaz w (.int .u64 ((zag l / 2 ^ i % 2:Nat):Int))):=by
 obtain⟨hn,hc1,hc2⟩:=zba hl;obtain⟨k,hk⟩:=nm (i / 32);obtain⟨s,hs⟩:=nm (i % 32);have e1:(i:Int) / 32=k:=by omega
 have e2:(i:Int) % 32=s:=by omega
 have hs32:s<32:=by omega
 have hik:i=32*k+s:=by omega
 have hb0:decide ((i:Int)<0)=false:=by simp
 by_cases h:n<=k
 ·have HE:=zh (show zag l / 2 ^ i % 2=0 by
   have h1:=zdV hcl;have h2:2 ^ (32*l.length)<=2 ^ i:=Nat.pow_le_pow_right (by decide) (by omega);rw[Nat.div_eq_of_lt (by omega)])
  rw[HE.o];have hbk:decide ((k:Int) ≥ (n:Int))=true:=by simp;omega
  have hkI:(n:Int)<=k:=by omega
  clear HE hl hcl hik hk hs hn
  go_in
  go_wp2_with fail;go_ret;exact⟨rfl,rfl⟩
 ·have hkl:k<l.length:=by omega
  obtain⟨b,o,rfl,-,s0⟩:=zbq hl k hkl;have hx:=hcl _ (List.getElem_mem hkl);have HB:=zh (zpU hcl hkl hs32);have HIK:=zh hik;obtain⟨x,hxe⟩:=nm (l[k]);rw[<-hxe] at s0 hx HB;have HS:=zh (zqV (x:=x) (s:=s));obtain⟨y,hy⟩:=nm (x / 2 ^ s);have hyx:y<=x:=by rw[hy];exact Nat.div_le_self _ _
  rw[<-hy] at HS HB;have HA:=zh (zqU (A:=y) (by omega));have hbk:decide ((k:Int) ≥ (n:Int))=false:=by simp;omega
  have hbk2:decide (n<=k)=false:=by simpa using h
  have hkn:k<n:=by omega
  have hxI:(x:Int)<4294967296:=by omega
  have hyI:(y:Int)<4294967296:=by omega
  clear hl hcl hik hk hs hn hxe hy h
  go_in
  go_wp2_with fail;rw[HIK.o,HB.o,HS.o,show IntKind.u64.wrap (y:Int)=y by rw[zen];omega,HA.o];go_ret;exact⟨rfl,rfl⟩
def zrd (w:World)(v:Nat)(e:Ending)(w':World):Prop:=w'=w/\∃t:Nat,e=.returned (.int .u64 (t:Int))/\v % 2 ^ t=0/\v / 2 ^ t % 2=1/\t<=64
theorem zpV {S:Nat->Prop}{w:World}{xb:Nat}{x:Int}(hx:IntAt S w xb x)(hs:zaR x)(h0:x≠0)(h64:x.natAbs<2 ^ 64):Calls Tryz.prog 177 #[.pointer (some ⟨xb,0,none⟩)] w (zrd w x.natAbs):=by
 obtain⟨ng,l,n,q,c,hr,hl,hcl,hn,hsg,hab,hng,hnl⟩:=hx.parts hs;have p1:=hr 1 _ rfl;have hz:=zrc hab hcl hnl;have hn0:¬n=0:=fun e=>h0 (hz.1 e);have hb:((n:Int) == 0)=false:=by simp;omega
 have HBI:=zh (fun(j:Nat) (hj:j<=64)=>zly hl hcl.1 (by omega) j (by omega));rw[hab] at HBI;obtain⟨v,hv⟩:=nm (x.natAbs);rw[<-hv] at HBI h64 ⊢;have hv0:v≠0:=by omega
 have HV0:=zh hv0;have HV:=zh h64;clear hx hs hr hl hcl hsg hab hng hnl hz h0 hv h64 hv0
 go_in
 go_wp2_with fail
 go_loopw [3] (fun iv wr=>wr=w/\∃i:Nat,i<=64/\iv=.int .u64 (i:Int)/\Hid (v % 2 ^ i=0)) (fun iv _=>100-(intOf iv).toNat)
 case atStart=>exact⟨rfl,0,by omega,rfl,zh (by simp[Nat.mod_one])⟩
 case round=>
  obtain⟨rfl,i,hi,rfl,HM⟩:=hrel;have hiI:(i:Int)<=64:=by omega
  obtain⟨y,hy⟩:=nm (v / 2 ^ i % 2);have HN:=zh (HBI.o i hi);rw[<-hy] at HN;have HY:=zh hy;have hy2:y<2:=by rw[hy];exact Nat.mod_lt _ (by decide)
  clear hy;have hwi:IntKind.i64.wrap (i:Int)=i:=by rw[IntKind.wrap_i64];omega
  have HE:=zh hwi;clear hwi;by_cases hy0:y=0
  ·have hby:((y:Int) == 0)=true:=by simp;omega
   have HS:Hid (i+1<=64/\v % 2 ^ (i+1)=0):=zh (by
    have h1:v % 2 ^ (i+1)=0:=by
     rw[Nat.pow_succ,Nat.mod_mul,HM.o,<-HY.o,hy0];rfl
    refine⟨?_,h1⟩;apply Classical.byContradiction;intro h;have hi64:i=64:=by omega
    rw[hi64,Nat.mod_eq_of_lt (Nat.lt_of_lt_of_le HV.o (Nat.pow_le_pow_right (by decide) (by decide)))] at h1;exact HV0.o h1)
   clear hy0;go_wp2_with fail;refine HN.o.mono ?_;rintro e w1 ⟨rfl,rfl⟩;go_wp2_with fail;go_roundw
   case rel=>exact⟨trivial,i+1,HS.o.1,by go_num,zh HS.o.2⟩
   case measure=>simp only[intOf];omega
  ·have hby:((y:Int) == 0)=false:=by simp;omega
   have HY1:=zh (show v / 2 ^ i % 2=1 by rw[<-HY.o];omega);clear hy0;go_wp2_with fail;refine HN.o.mono ?_;rintro e w1 ⟨rfl,rfl⟩;go_wp2_with fail;go_ret;exact⟨rfl,i,rfl,HM.o,HY1.o,hi⟩
theorem zja:(2:Nat) ^ 63=9223372036854775808:=by decide
theorem zrt {v t:Nat}(h1:2 ^ 63<=v)(h2:v<2 ^ 64)(h3:v % 2 ^ t=0)(h4:v / 2 ^ t % 2=1):t=63↔v=2 ^ 63:=by
 constructor
 ·intro e;subst e;have:=Nat.div_add_mod v (2 ^ 63);rw[h3] at this;have h5:v / 2 ^ 63<2:=(Nat.div_lt_iff_lt_mul (by decide)).2 (by omega);have h6:v / 2 ^ 63=1:=by omega
  rw[h6] at this;omega
 ·intro e;apply Classical.byContradiction;intro ht;rcases Nat.lt_or_gt_of_ne ht with h|h
  ·rw[e] at h4;have e2:(2:Nat) ^ 63=2 ^ t*(2*2 ^ (62-t)):=by
    rw[<-Nat.mul_assoc,<-Nat.pow_succ,<-Nat.pow_add]
    congr 1
    omega
   rw[e2,Nat.mul_div_cancel_left _ (Nat.pow_pos (by decide)),Nat.mul_mod_right] at h4;cases h4
  ·rw[Nat.mod_eq_of_lt (Nat.lt_of_lt_of_le h2 (Nat.pow_le_pow_right (by decide) h))] at h3;rw[h3] at e;exact absurd e (by decide)
theorem zoM {S:Nat->Prop}{w:World}{xb:Nat}{x:Int}(hx:IntAt S w xb x)(hs:zaR x):Calls Tryz.prog 175 #[.pointer (some ⟨xb,0,none⟩)] w (zaz w (.bool (decide (-9223372036854775808<=x/\x<=9223372036854775807)))):=by
 have HTZ:=zh (fun(h0:x≠0) (h64:x.natAbs<2 ^ 64)=>zpV hx hs h0 h64);obtain⟨ng,l,n,q,c,hr,hl,hcl,hn,hsg,hab,hng,hnl⟩:=hx.parts hs;have p0:=hr 0 _ rfl;have p1:=hr 1 _ rfl;have HL:=zh (zfA hl hcl (by omega));rw[hab] at HL;have hB0:=zgH hs;have HNG:=zh hng;obtain⟨B,hB⟩:=nm (zdb x.natAbs);rw[<-hB] at HL hB0;have HB:Hid (∀k,B<=k↔x.natAbs<2 ^ k):=zh (fun k=>by rw[hB,zeX]);clear hx hs hr hl hcl hsg hab hng hnl hB;obtain⟨R,hR⟩:=nm (decide (-9223372036854775808<=x/\x<=9223372036854775807));rw[<-hR];have HR:=zh hR;clear hR;by_cases h1:B<64
 ·have HE:=zh (show R=true by
   have:=(HB.o 63).1 (by omega);rw[zja] at this;rw[HR.o];simp;omega)
  have hb:decide ((B:Int)<64)=true:=by simp;omega
  rw[HE.o];clear HE HR HB HNG
  go_in
  go_wp2_with fail;refine HL.o.mono ?_;rintro e w1 ⟨rfl,rfl⟩;go_wp2_with fail;go_ret;exact⟨rfl,rfl⟩
 ·have hb:decide ((B:Int)<64)=false:=by simp;omega
  have H63:=zh (show ¬x.natAbs<2 ^ 63 from fun h=>by have:=(HB.o 63).2 h;omega);by_cases h2:B=64
  ·have hb2:((B:Int) == 64)=true:=by simp;omega
   have H64:=zh ((HB.o 64).1 (by omega));cases ng with
   | true=>
    have HT:=zh (HTZ.o (fun e=>by have:=H63.o;rw[zja] at this;rw[e] at this;omega) H64.o);clear h1 h2
    go_in
    go_wp2_with fail;refine HL.o.mono ?_;rintro e w1 ⟨rfl,rfl⟩;go_wp2_with fail;refine HT.o.mono ?_;rintro e w1 ⟨rfl,t,rfl,t1,t2,t3⟩;have HQ:=zh (zrt (by have:=H63.o;omega) H64.o t1 t2);have HRR:Hid (R=decide (t=63)):=zh (by
     rw[HR.o,Bool.eq_iff_iff];simp only[decide_eq_true_eq];rw[HQ.o,zja];have:=H63.o;rw[zja] at this;have hn:=HNG.o.symm;simp at hn;omega)
    clear t1 t2 HQ;by_cases ht:t=63
    ·have hbt:((t:Int) == 63)=true:=by simp;omega
     have HE:=zh (show R=true by rw[HRR.o];simpa using ht);clear ht;go_wp2_with fail;rw[HE.o];go_ret;exact⟨rfl,rfl⟩
    ·have hbt:((t:Int) == 63)=false:=by simp;omega
     have HE:=zh (show R=false by rw[HRR.o];simpa using ht);clear ht;go_wp2_with fail;rw[HE.o];go_ret;exact⟨rfl,rfl⟩
   | false=>
    have HE:=zh (show R=false by
     have:=H63.o;rw[zja] at this;have hn:=HNG.o.symm;simp at hn;rw[HR.o];simp;omega)
    rw[HE.o];clear h1 h2 HE
    go_in
    go_wp2_with fail;refine HL.o.mono ?_;rintro e w1 ⟨rfl,rfl⟩;go_wp2_with fail;go_ret;exact⟨rfl,rfl⟩
  ·have hb2:((B:Int) == 64)=false:=by simp;omega
   have HE:=zh (show R=false by
    have h64:¬x.natAbs<2 ^ 64:=fun h=>by have:=(HB.o 64).2 h;omega
    rw[zqe] at h64;rw[HR.o];simp;omega)
   rw[HE.o];clear h1 h2 HE
   go_in
   go_wp2_with fail;refine HL.o.mono ?_;rintro e w1 ⟨rfl,rfl⟩;go_wp2_with fail;go_ret;exact⟨rfl,rfl⟩
theorem zmw {S:Nat->Prop}{w:World}{xb:Nat}{x:Int}(hx:IntAt S w xb x)(hs:zaR x)(hi:zah x):Calls Tryz.prog 176 #[.pointer (some ⟨xb,0,none⟩)] w (zaz w (.int .i64 x)):=by
 have HU:=zh (zeD hx hs);obtain⟨ng,l,n,q,c,hr,hl,hcl,hn,hsg,hab,hng,hnl⟩:=hx.parts hs;have p0:=hr 0 _ rfl;have hi1:-9223372036854775808<=x:=hi.1;have hi2:x<=9223372036854775807:=hi.2;obtain⟨y,hy⟩:=nm (x.natAbs % 18446744073709551616);rw[<-hy] at HU;have hyb:y<18446744073709551616:=by omega
 have hyI:(y:Int)<18446744073709551616:=by omega
 cases ng with
 | true=>
  have hx0:x<0:=by simpa using hng.symm
  have HE:Hid (wrap64 (-wrap64 (y:Int))=x):=zh (by unfold wrap64;omega);clear hx hs hr hl hcl hsg hab hng hnl hi hi1 hi2 hy hx0
  go_in
  go_wp2_with fail;refine HU.o.mono ?_;rintro e w1 ⟨rfl,rfl⟩;go_wp2_with fail;go_ret;exact⟨by rw[<-HE.o];rfl,rfl⟩
 | false=>
  have hx0:¬x<0:=by simpa using hng.symm
  have HE:Hid (wrap64 (y:Int)=x):=zh (by unfold wrap64;omega);clear hx hs hr hl hcl hsg hab hng hnl hi hi1 hi2 hy hx0
  go_in
  go_wp2_with fail;refine HU.o.mono ?_;rintro e w1 ⟨rfl,rfl⟩;go_wp2_with fail;go_ret;exact⟨by rw[<-HE.o];rfl,rfl⟩
theorem zoN {S:Nat->Prop}{w:World}{zb xb:Nat}{u0 u1:Value}{v:Nat}(hz:BoxN w zb 93 [u0,u1])(hx:IntAt S w xb (v:Int))(hs:zaR (v:Int))(sh:Nat)(hsh:sh<=10000) :
  Calls Tryz.prog 158 #[.pointer (some ⟨zb,0,none⟩),.pointer (some ⟨xb,0,none⟩),.int .u64 (sh:Int)] w (zfp w zb ((v / 2 ^ sh:Nat):Int)):=by
 obtain⟨ng,l,n,q,c,hr,hl,hcl,hn,hsg,hab,hng,hnl⟩:=hx.parts hs;have hng2:ng=false:=by rw[hng];simp
 subst hng2;have p0:=hr 0 _ rfl;have p1:=hr 1 _ rfl;have hab2:zag l=v:=by rw[hab];rfl
 have HR:=zh (zmu hl hcl.1 (by omega) sh hsh);rw[hab2] at HR;have HZ:=zh hz;clear hx hs hr hl hcl hsg hab hng hnl hz hab2 hsh
 go_in
 go_wp2_with fail;refine HR.o.mono ?_;rintro e w1 ⟨hb,l1,q1,c1,rfl,h1,h2,h3⟩;have HB1:=zh hb;have HH1:=zh h1;have HH2:=zh h2;have HH3:=zh h3;clear hb h1 h2 h3;go_wp2_with fail;refine(zdZ HZ.o HB1.o false HH1.o HH2.o (z:=((v / 2 ^ sh:Nat):Int)) (by rw[HH3.o];rfl)).mono ?_;rintro e w2 ⟨rfl,h4,h5⟩;have H4:=zh h4;have H5:=zh h5;clear h4 h5;go_wp2_with fail;go_ret;exact⟨rfl,H4.o,H5.o⟩
def zgI (x y:Int):Int:=if x<y then -1 else if y<x then 1 else 0
theorem zlz {S T:Nat->Prop}{w:World}{xb yb:Nat}{x y:Int}(hx:IntAt S w xb x)(hs:zaR x)(hy:IntAt T w yb y)(ht:zaR y) :
  Calls Tryz.prog 160 #[.pointer (some ⟨xb,0,none⟩),.pointer (some ⟨yb,0,none⟩)] w (zg7 w (.int .i64 (zgI x y))):=by
 obtain⟨ng,l,n,q,c,hr,hl,hcl,hn,hsg,hab,hng,hnl⟩:=hx.parts hs;obtain⟨mg,m,k,p,d,hr',hl',hcl',hn',hsg',hab',hng',hnl'⟩:=hy.parts ht;have p0:=hr 0 _ rfl;have p1:=hr 1 _ rfl;have q0:=hr' 0 _ rfl;have q1:=hr' 1 _ rfl;have HC:Hid (∀t,Calls Tryz.prog 163 #[.slice q n c,.slice p k d] (w.drewN t) (fun e w'=>e=.returned (.int .i64 (zdu x.natAbs y.natAbs))/\∃n,w'=(w.drewN t).drewN n)):=zh (fun t=>by
  have:=zgG (hl.below (zab (Below.refl _ w) t)) (hl'.below (zab (Below.refl _ w) t)) hcl hcl'
  rwa [hab,hab'] at this)
 have HNX:=zh hng;have HNY:=zh hng';obtain⟨R,hR⟩:=nm (zgI x y);obtain⟨A,hA⟩:=nm (zdu x.natAbs y.natAbs);rw[<-hR];rw[<-hA] at HC;have HR:=zh hR;have HA:=zh hA;have hA1:-1<=A/\A<=1:=by rw[hA];unfold zdu;repeat (first|(split <;> omega)|split)
 have hAw:wrap64 (-A)=-A:=by unfold wrap64;omega
 clear hx hs hr hl hcl hsg hab hng hnl hy ht hr' hl' hcl' hsg' hab' hng' hnl' hR hA;cases ng <;> cases mg
 ·have HE:Hid (R=A):=zh (by
   have h1:=HNX.o;have h2:=HNY.o;simp at h1 h2;rw[HR.o,HA.o];unfold zgI zdu
   repeat (first|(split <;> omega)|split))
  clear HNX HNY HR HA
  go_in
  go_wp2_with fail
  go_quiet (fail)
  go_wp2_with fail;obtain⟨V,hV⟩:=nm (w.drewN nq);have HC2:Hid (∀t,Calls Tryz.prog 163 #[.slice q n c,.slice p k d] (V.drewN t) (fun e w'=>e=.returned (.int .i64 A)/\∃n,w'=(V.drewN t).drewN n)):=zh (fun t=>by have:=HC.o (nq+t);rw[<-World.drewN_drewN] at this;rw[hV];exact this);have r1:V.cell? ⟨xb,1,none⟩=some (.slice q n c):=by rw[hV];simpa using p1
  have t1:V.cell? ⟨yb,1,none⟩=some (.slice p k d):=by rw[hV];simpa using q1
  have R0:=zh (show ∀u,w.cell? ⟨xb,0,none⟩=some u->V.cell? ⟨xb,0,none⟩=some u from fun u h=>by rw[hV];simpa using h);have r0:=R0.o _ p0;clear R0;have HV:=zh hV;rw[<-hV];clear hV p0 p1 q0 q1;clear HC
  go_quiet (with_reducible exact Calls.quiet_of (HC2.o _))
  go_wp2_with fail;rw[HE.o];go_ret;exact⟨rfl,_,by rw[HV.o,World.drewN_drewN]⟩
 ·have HE:Hid (R=1):=zh (by
   have h1:=HNX.o;have h2:=HNY.o;simp at h1 h2;rw[HR.o];unfold zgI
   repeat (first|(split <;> omega)|split))
  clear HNX HNY HR HA
  go_in
  go_wp2_with fail
  go_quiet (fail)
  go_wp2_with fail;rw[HE.o];go_ret;exact⟨rfl,_,rfl⟩
 ·have HE:Hid (R=-1):=zh (by
   have h1:=HNX.o;have h2:=HNY.o;simp at h1 h2;rw[HR.o];unfold zgI
   repeat (first|(split <;> omega)|split))
  clear HNX HNY HR HA
  go_in
  go_wp2_with fail
  go_quiet (fail)
  go_wp2_with fail;rw[HE.o];go_ret;exact⟨rfl,_,rfl⟩
 ·have HE:Hid (R=-A):=zh (by
   have h1:=HNX.o;have h2:=HNY.o;simp at h1 h2;rw[HR.o,HA.o];unfold zgI zdu
   repeat (first|(split <;> omega)|split))
  clear HNX HNY HR HA
  go_in
  go_wp2_with fail
  go_quiet (fail)
  go_wp2_with fail;obtain⟨V,hV⟩:=nm (w.drewN nq);have HC2:Hid (∀t,Calls Tryz.prog 163 #[.slice q n c,.slice p k d] (V.drewN t) (fun e w'=>e=.returned (.int .i64 A)/\∃n,w'=(V.drewN t).drewN n)):=zh (fun t=>by have:=HC.o (nq+t);rw[<-World.drewN_drewN] at this;rw[hV];exact this);have r1:V.cell? ⟨xb,1,none⟩=some (.slice q n c):=by rw[hV];simpa using p1
  have t1:V.cell? ⟨yb,1,none⟩=some (.slice p k d):=by rw[hV];simpa using q1
  have R0:=zh (show ∀u,w.cell? ⟨xb,0,none⟩=some u->V.cell? ⟨xb,0,none⟩=some u from fun u h=>by rw[hV];simpa using h);have r0:=R0.o _ p0;clear R0;have HV:=zh hV;rw[<-hV];clear hV p0 p1 q0 q1;clear HC
  go_quiet (with_reducible exact Calls.quiet_of (HC2.o _))
  go_wp2_with fail;rw[HE.o];go_ret;exact⟨rfl,_,by rw[HV.o,World.drewN_drewN]⟩
theorem zfC {y v:Nat}(hs:zaR (v:Int))(h:y<=v):zaR (y:Int):=by
 obtain⟨k,hk,h1⟩:=hs;exact⟨k,hk,Nat.lt_of_le_of_lt (show(y:Int).natAbs<=(v:Int).natAbs by omega) h1⟩
def zeE (m cut:Nat):Int:=if cut+1 ≥ 2047 then 9218868437227405312 else bits .or .i64 (((cut:Int)+1)*4503599627370496) (wrap64 (bits .and .u64 (m:Int) 4503599627370495))
def zeF (m cut:Nat):Int:=if m=9007199254740992 then zeE (m / 2) (cut+1) else zeE m cut
def zf4 (c:Int)(q:Nat):Nat:=if 0<c\/(c=0/\q % 2=1) then q+1 else q
def zhD (v:Nat):Int:=if zdb v<=53 then(v:Int) else
 zeF (zf4 (zgI ((v-v / 2 ^ (zdb v-53)*2 ^ (zdb v-53):Nat):Int) ((2 ^ (zdb v-53-1):Nat):Int)) (v / 2 ^ (zdb v-53))) (zdb v-53)
theorem zg3 {S:Nat->Prop}{w:World}{xb v:Nat}(hx:IntAt S w xb (v:Int))(hs:zaR (v:Int)):Calls Tryz.prog 150 #[.pointer (some ⟨xb,0,none⟩)] w (zaM w (.int .i64 (zhD v))):=by
 have hB0:=zgH hs;have HBL:=zh (zlx hx hs);have HU:=zh (zeD hx hs);have hvv:(v:Int).natAbs=v:=by omega
 rw[hvv] at hB0 HBL HU;obtain⟨B,hB⟩:=nm (zdb v);obtain⟨R,hR⟩:=nm (zhD v);rw[<-hR];rw[<-hB] at hB0 HBL;have HB:=zh hB;have HR:=zh hR;have HX:=zh hx;have HS:=zh hs;clear hx hs hvv hB hR;by_cases h53:B<=53
 ·have hv64:v<18446744073709551616:=by
   have h1:=(zeX (v:=v) (k:=53)).1 (by rw[<-HB.o];exact h53);exact Nat.lt_trans h1 (by decide)
  have hv63:v<9223372036854775808:=by
   have h1:=(zeX (v:=v) (k:=53)).1 (by rw[<-HB.o];exact h53);exact Nat.lt_trans h1 (by decide)
  have HE:Hid (wrap64 (v:Int)=R):=zh (by rw[HR.o];unfold zhD;rw[<-HB.o,if_pos h53];unfold wrap64;omega);rw[Nat.mod_eq_of_lt hv64] at HU;have hvI:(v:Int)<18446744073709551616:=by omega
  have hvI2:(v:Int)<9223372036854775808:=by omega
  have hb:decide ((B:Int)<=53)=true:=by simp;omega
  have HE2:Hid ((v:Int)=R):=zh (by rw[<-HE.o];unfold wrap64;omega)
  go_in
  go_wp2_with fail;refine HBL.o.mono ?_;rintro e w1 ⟨rfl,rfl⟩;go_wp2_with fail;refine HU.o.mono ?_;rintro e w1 ⟨rfl,rfl⟩;go_wp2_with fail;go_ret;exact⟨by first|(rw[<-HE.o];rfl)|(rw[<-HE2.o];rfl),Below.refl _ _⟩
 ·obtain⟨cut,hcut⟩:=nm (B-53);have hBc:B=cut+53:=by omega
  have HBC:Hid (zdb v=cut+53):=zh (by rw[<-HB.o];exact hBc);have hcut1:1<=cut:=by omega
  have hcut2:cut<=3200:=by omega
  obtain⟨q,hq⟩:=nm (v / 2 ^ cut);have hqv:q<=v:=by rw[hq];exact Nat.div_le_self _ _
  have hq53:q<9007199254740992:=by
   have h1:=(zeX (v:=v) (k:=cut+53)).1 (by rw[HBC.o];exact Nat.le_refl _);rw[Nat.pow_add] at h1;rw[hq];exact(Nat.div_lt_iff_lt_mul (Nat.pow_pos (by decide))).2 (by rw[Nat.mul_comm];exact h1)
  obtain⟨g,hg⟩:=nm (q*2 ^ cut);have hgv:g<=v:=by rw[hg,hq];exact Nat.div_mul_le_self _ _
  obtain⟨r,hr⟩:=nm (v-g);have hrv:r<=v:=by omega
  obtain⟨f,hf⟩:=nm (2 ^ (cut-1));have hfv:f<=v:=by
   apply Classical.byContradiction;intro h;have h1:=(zeX (v:=v) (k:=cut-1)).2 (by rw[<-hf];omega);rw[HBC.o] at h1;omega
  obtain⟨c,hc⟩:=nm (zgI (r:Int) (f:Int));have HE:Hid (R=zeF (zf4 c q) cut):=zh (by
   rw[HR.o];unfold zhD;rw[<-HB.o,if_neg h53,<-hcut,<-hq,<-hg,<-hr,<-hf,<-hc])
  have hc1:-1<=c/\c<=1:=by rw[hc];unfold zgI;repeat (first|(split <;> omega)|split)
  have HQ:=zh hq;have HG:=zh hg;have HRR:=zh hr;have HF:=zh hf;have HC:=zh hc;have SQ:=zh (zfC HS.o hqv);have SG:=zh (zfC HS.o hgv);have SR:=zh (zfC HS.o hrv);have SF:=zh (zfC HS.o hfv);have S1:=zh (zfC (y:=1) HS.o (by have:=Nat.pow_pos (n:=cut-1) (show 0<2 by decide);omega));have hb:decide ((B:Int)<=53)=false:=by simp;omega
  have hsub:(B:Int)-53=cut:=by omega
  have hqI:(q:Int)<9007199254740992:=by omega
  have hqm:q % 18446744073709551616=q:=Nat.mod_eq_of_lt (by omega);have HQM:=zh hqm;have HGV:=zh hgv;clear hcut hBc hq hg hr hf hc h53 hqv hgv hrv hfv hqm;obtain⟨W1,hW1,a1,b1⟩:=zao w 93 [.bool false,.slice none 0 0];have HW1:=zh hW1;have HB1:=zh b1;have HR1:=zh (zoN a1 (HX.o.below (w':=W1) b1) HS.o cut (by omega));clear hW1 a1 b1
  go_in
  go_wp2_with fail;refine HBL.o.mono ?_;rintro e w1 ⟨rfl,rfl⟩;go_wp2_with fail;rw[show w1.alloc (Obj.cells #[.bool false,.slice none 0 0] 93)=W1 from HW1.o.symm];clear HW1 HBL HU;refine HR1.o.mono ?_;rintro e w2 ⟨rfl,g1,i1⟩;have HB2:Hid (Below w1.heap.size w1 w2):=zh (HB1.o.grown g1 HB1.o.size (fun k e=>by cases e;exact Nat.le_refl _));have HI1:=zh i1;have HX2:=zh (HX.o.below HB2.o);clear g1 i1 HR1 HB1 HX;obtain⟨z1,hz1⟩:=nm (w1.heap.size);rw[<-hz1] at HI1 ⊢;have HZ1:=zh hz1;clear hz1;rw[<-HQ.o] at HI1;obtain⟨W3,hW3,a3,b3⟩:=zao w2 93 [.bool false,.slice none 0 0];obtain⟨W4,hW4,a4,b4⟩:=zao W3 93 [.bool false,.slice none 0 0];have HW3:=zh hW3;have HW4:=zh hW4;have HB4:=zh (b3.trans (b4.mono b3.size));have HL:=zh (zb2 a4 (HI1.o.below (w':=W4) HB4.o) SQ.o cut (by omega));have A3:=zh a3;have HB34:=zh b4;have h3s:=zh (show W3.heap.size=w2.heap.size+1 by rw[hW3];simp);clear hW3 hW4 a3 a4 b3 b4;go_wp2_with fail;rw[show w2.alloc (Obj.cells #[.bool false,.slice none 0 0] 93)=W3 from HW3.o.symm,show W3.alloc (Obj.cells #[.bool false,.slice none 0 0] 93)=W4 from HW4.o.symm];rw[h3s.o] at HL;refine HL.o.mono ?_;rintro e w5 ⟨rfl,g5,i5⟩;have HB5:=zh (show Below W3.heap.size W3 w5 from HB34.o.grown g5 HB34.o.size (fun k e=>by cases e;rw[h3s.o];exact Nat.le_refl _));have HB5':Hid (Below w2.heap.size w2 w5):=zh (HB4.o.grown g5 HB4.o.size (fun k e=>by cases e;omega));have HI5:=zh i5;have A5:=zh (A3.o.below HB5.o A3.o.lt);have HX5:=zh (HX2.o.below HB5'.o);clear g5 i5 HL HB34 HB4 HX2 HW4 A3;obtain⟨z3,hz3⟩:=nm (w2.heap.size+1);rw[<-hz3] at HI5 ⊢;obtain⟨z2,hz2⟩:=nm (w2.heap.size);rw[<-hz2] at A5 ⊢;have HZ2:=zh hz2;have HG5:=zh (show IntAt (fun b=>W4.heap.size<=b) w5 z3 (g:Int) by have e:(g:Int)=(q:Int)*2 ^ cut:=(by rw[HG.o];push_cast;rfl);rw[e];exact HI5.o);clear hz3 hz2 HI5;have HL:=zh (zlw A5.o HX5.o HS.o HG5.o SG.o);go_wp2_with fail;refine HL.o.mono ?_;rintro e w6 ⟨rfl,g6,i6⟩;have HB6:Hid (Below w2.heap.size w2 w6):=zh (HB5'.o.grown g6 HB5'.o.size (fun k e=>by cases e;rw[HZ2.o];exact Nat.le_refl _));have HQ6:=zh (HI1.o.below HB6.o);have HR6:Hid (IntAt (fun _=>True) w6 z2 (r:Int)):=zh (by
   have e:(v:Int)-(g:Int)=(r:Int):=by have:=HRR.o;have:=HGV.o;omega
   have:=i6.mono (T:=fun _=>True) (fun _ _=>trivial);rw[e] at this;exact this)
  clear g6 i6 HL;go_wp2_with fail;have HU2:=zh (zeD HQ6.o SQ.o);rw[show((q:Int)).natAbs=q by omega,HQM.o] at HU2;refine HU2.o.mono ?_;rintro e w1x ⟨rfl,rfl⟩;clear HU2 HQ6 HX5 HB5 HB5' A5 HG5 HI1;obtain⟨W7,hW7,a7,b7⟩:=zao w1x 93 [.bool false,.slice none 0 0];have HW7:=zh hW7;have HB7:=zh b7;have A7:=zh a7;have HN:=zh (zhC (w:=W7) (x:=1) (by unfold zah;omega));have HBw:=zh (show Below w1.heap.size w1 w1x from HB2.o.trans (HB6.o.mono HB2.o.size));clear hW7 a7 b7 HB6 HB2;have hcs:(cut:Int)-1=((cut-1:Nat):Int):=by omega
  obtain⟨c1,hc1'⟩:∃c1,c1=cut-1:=⟨_,rfl⟩;rw[<-hc1'] at hcs;have hc1b:c1<=3200:=by omega
  have HC1:=zh hc1';clear hc1';go_wp2_with fail;rw[show w1x.alloc (Obj.cells #[.bool false,.slice none 0 0] 93)=W7 from HW7.o.symm];refine HN.o.mono ?_;rintro e w8 ⟨hb8,zb8,hz8,rfl,i8⟩;have HB8:=zh hb8;have HI8:=zh i8;have A8:=zh (A7.o.below HB8.o A7.o.lt);have HB78:=zh (HB7.o.trans (hb8.mono HB7.o.size));clear hb8 hz8 i8 HN HW7;obtain⟨z7,hz7⟩:=nm (w1x.heap.size);rw[<-hz7] at A8 ⊢;have HZ7:=zh hz7;clear hz7 A7;have HL:=zh (zb2 A8.o HI8.o S1.o c1 (by omega));go_wp2_with fail;refine HL.o.mono ?_;rintro e w9 ⟨rfl,g9,i9⟩;have HB9:Hid (Below w1x.heap.size w1x w9):=zh (HB78.o.grown g9 HB78.o.size (fun k e=>by cases e;rw[HZ7.o];exact Nat.le_refl _));have HF9:Hid (IntAt (fun _=>True) w9 z7 (f:Int)):=zh (by
   have e:(1:Int)*2 ^ c1=(f:Int):=by rw[HF.o,HC1.o,Int.one_mul];push_cast;rfl
   have:=i9.mono (T:=fun _=>True) (fun _ _=>trivial);rw[e] at this;exact this)
  have HR9:=zh (HR6.o.below HB9.o);clear g9 i9 HL HB8 HI8 A8 HB78 HB7 HR6;have HCC:=zh (zlz HR9.o SR.o HF9.o SF.o);rw[<-HC.o] at HCC;go_wp2_with fail;refine HCC.o.mono ?_;rintro e w10 ⟨rfl,t10,ht10⟩;have HBE:Hid (Below w1.heap.size w1 w10):=zh (by
   rw[ht10];exact zab (HBw.o.trans (HB9.o.mono HBw.o.size)) t10)
  clear ht10 HCC HR9 HF9 HB9 HBw SQ SG SR SF S1 HS HF HC HRR HG HQ HGV HZ7 HZ1 HZ2 HC1 hcs;have hcutI:(cut:Int)<=3200:=by omega
  by_cases hneg:c<0
  ·have hb1:decide (c > 0)=false:=by simp;omega
   have hb2:(c == 0)=false:=by simp;omega
   clear hc1 hneg;have HM:=zh (show zf4 c q=q by unfold zf4;rw[if_neg];simp at hb1 hb2;omega);have hqn:((q:Int) == 9007199254740992)=false:=by simp;omega
   by_cases hbig:cut+1 ≥ 2047
   ·have HV:Hid (R=9218868437227405312):=zh (by rw[HE.o];rw[HM.o];unfold zeF;rw[if_neg (by omega)];unfold zeE;rw[if_pos hbig]);have hbg:decide ((cut:Int)+1 ≥ 2047)=true:=by simp;omega
    have hbg2:2047<=cut+1:=hbig;clear HE hbig;go_wp2_with fail;rw[HV.o];go_ret;exact⟨rfl,HBE.o⟩
   ·have HV:Hid (R=bits .or .i64 (((cut:Int)+1)*4503599627370496) (wrap64 (bits .and .u64 (q:Int) 4503599627370495))):=zh (by rw[HE.o];rw[HM.o];unfold zeF;rw[if_neg (by omega)];unfold zeE;rw[if_neg hbig];try (first|rfl|(push_cast;rfl)));have hbg:decide ((cut:Int)+1 ≥ 2047)=false:=by simp;omega
    have hbg2:cut+1<2047:=by omega
    clear HE hbig;go_wp2_with fail;rw[HV.o];go_ret;exact⟨rfl,HBE.o⟩
  by_cases hpos:0<c
  ·have hb1:decide (c > 0)=true:=by simp;omega
   have hb1':0<c:=hpos;have HM:=zh (show zf4 c q=q+1 by unfold zf4;rw[if_pos (.inl hpos)]);clear hc1 hneg hpos;by_cases hm:q+1=9007199254740992
   ·have hqn:((q:Int)+1 == 9007199254740992)=true:=by simp;omega
    have HMD:=zh (show(q+1) / 2=4503599627370496 by omega);have hmI:(q:Int)+1=9007199254740992:=by omega
    have HMM:=zh hm;clear hm;by_cases hbig:cut+1+1 ≥ 2047
    ·have HV:Hid (R=9218868437227405312):=zh (by rw[HE.o];rw[HM.o];unfold zeF;rw[if_pos HMM.o,HMD.o];unfold zeE;rw[if_pos hbig]);have hbg:decide (((cut:Int)+1)+1 ≥ 2047)=true:=by simp;omega
     have hbg2:2047<=cut+1+1:=hbig;clear HE hbig;go_wp2_with fail;rw[HV.o];go_ret;exact⟨rfl,HBE.o⟩
    ·have HV:Hid (R=bits .or .i64 ((((cut:Int)+1)+1)*4503599627370496) (wrap64 (bits .and .u64 4503599627370496 4503599627370495))):=zh (by rw[HE.o];rw[HM.o];unfold zeF;rw[if_pos HMM.o,HMD.o];unfold zeE;rw[if_neg hbig];try (first|rfl|(push_cast;rfl)));have hbg:decide (((cut:Int)+1)+1 ≥ 2047)=false:=by simp;omega
     have hbg2:cut+1+1<2047:=by omega
     clear HE hbig;go_wp2_with fail;rw[HV.o];go_ret;exact⟨rfl,HBE.o⟩
   ·have hqn:((q:Int)+1 == 9007199254740992)=false:=by simp;omega
    have HMM:=zh hm;clear hm;by_cases hbig:cut+1 ≥ 2047
    ·have HV:Hid (R=9218868437227405312):=zh (by rw[HE.o];rw[HM.o];unfold zeF;rw[if_neg HMM.o];unfold zeE;rw[if_pos hbig]);have hbg:decide ((cut:Int)+1 ≥ 2047)=true:=by simp;omega
     have hbg2:2047<=cut+1:=hbig;clear HE hbig;go_wp2_with fail;rw[HV.o];go_ret;exact⟨rfl,HBE.o⟩
    ·have HV:Hid (R=bits .or .i64 (((cut:Int)+1)*4503599627370496) (wrap64 (bits .and .u64 ((q:Int)+1) 4503599627370495))):=zh (by rw[HE.o];rw[HM.o];unfold zeF;rw[if_neg HMM.o];unfold zeE;rw[if_neg hbig];try (first|rfl|(push_cast;rfl)));have hbg:decide ((cut:Int)+1 ≥ 2047)=false:=by simp;omega
     have hbg2:cut+1<2047:=by omega
     clear HE hbig;go_wp2_with fail;rw[HV.o];go_ret;exact⟨rfl,HBE.o⟩
  obtain rfl:c=0:=by omega
  clear hc1 hneg hpos;by_cases hodd:q % 2=1
  ·have hb3:((q:Int) % 2 == 1)=true:=by simp;omega
   have HM:=zh (show zf4 0 q=q+1 by unfold zf4;rw[if_pos (.inr ⟨rfl,hodd⟩)]);have hodd2:(q:Int) % 2=1:=by omega
   by_cases hm:q+1=9007199254740992
   ·have hqn:((q:Int)+1 == 9007199254740992)=true:=by simp;omega
    have HMD:=zh (show(q+1) / 2=4503599627370496 by omega);have hmI:(q:Int)+1=9007199254740992:=by omega
    have HMM:=zh hm;clear hm hodd;by_cases hbig:cut+1+1 ≥ 2047
    ·have HV:Hid (R=9218868437227405312):=zh (by rw[HE.o];rw[HM.o];unfold zeF;rw[if_pos HMM.o,HMD.o];unfold zeE;rw[if_pos hbig]);have hbg:decide (((cut:Int)+1)+1 ≥ 2047)=true:=by simp;omega
     have hbg2:2047<=cut+1+1:=hbig;clear HE hbig;go_wp2_with fail;rw[HV.o];go_ret;exact⟨rfl,HBE.o⟩
    ·have HV:Hid (R=bits .or .i64 ((((cut:Int)+1)+1)*4503599627370496) (wrap64 (bits .and .u64 4503599627370496 4503599627370495))):=zh (by rw[HE.o];rw[HM.o];unfold zeF;rw[if_pos HMM.o,HMD.o];unfold zeE;rw[if_neg hbig];try (first|rfl|(push_cast;rfl)));have hbg:decide (((cut:Int)+1)+1 ≥ 2047)=false:=by simp;omega
     have hbg2:cut+1+1<2047:=by omega
     clear HE hbig;go_wp2_with fail;rw[HV.o];go_ret;exact⟨rfl,HBE.o⟩
   ·have hqn:((q:Int)+1 == 9007199254740992)=false:=by simp;omega
    have HMM:=zh hm;clear hm hodd;by_cases hbig:cut+1 ≥ 2047
    ·have HV:Hid (R=9218868437227405312):=zh (by rw[HE.o];rw[HM.o];unfold zeF;rw[if_neg HMM.o];unfold zeE;rw[if_pos hbig]);have hbg:decide ((cut:Int)+1 ≥ 2047)=true:=by simp;omega
     have hbg2:2047<=cut+1:=hbig;clear HE hbig;go_wp2_with fail;rw[HV.o];go_ret;exact⟨rfl,HBE.o⟩
    ·have HV:Hid (R=bits .or .i64 (((cut:Int)+1)*4503599627370496) (wrap64 (bits .and .u64 ((q:Int)+1) 4503599627370495))):=zh (by rw[HE.o];rw[HM.o];unfold zeF;rw[if_neg HMM.o];unfold zeE;rw[if_neg hbig];try (first|rfl|(push_cast;rfl)));have hbg:decide ((cut:Int)+1 ≥ 2047)=false:=by simp;omega
     have hbg2:cut+1<2047:=by omega
     clear HE hbig;go_wp2_with fail;rw[HV.o];go_ret;exact⟨rfl,HBE.o⟩
  ·have hb3:((q:Int) % 2 == 1)=false:=by simp;omega
   have HM:=zh (show zf4 0 q=q by unfold zf4;rw[if_neg (by rintro(h|⟨-,h⟩);exact absurd h (by decide);exact hodd h)]);have hqn:((q:Int) == 9007199254740992)=false:=by simp;omega
   clear hodd;by_cases hbig:cut+1 ≥ 2047
   ·have HV:Hid (R=9218868437227405312):=zh (by rw[HE.o];rw[HM.o];unfold zeF;rw[if_neg (by omega)];unfold zeE;rw[if_pos hbig]);have hbg:decide ((cut:Int)+1 ≥ 2047)=true:=by simp;omega
    have hbg2:2047<=cut+1:=hbig;clear HE hbig;go_wp2_with fail;rw[HV.o];go_ret;exact⟨rfl,HBE.o⟩
   ·have HV:Hid (R=bits .or .i64 (((cut:Int)+1)*4503599627370496) (wrap64 (bits .and .u64 (q:Int) 4503599627370495))):=zh (by rw[HE.o];rw[HM.o];unfold zeF;rw[if_neg (by omega)];unfold zeE;rw[if_neg hbig];try (first|rfl|(push_cast;rfl)));have hbg:decide ((cut:Int)+1 ≥ 2047)=false:=by simp;omega
    have hbg2:cut+1<2047:=by omega
    clear HE hbig;go_wp2_with fail;rw[HV.o];go_ret;exact⟨rfl,HBE.o⟩
structure Chg (C:Nat->Prop)(w w':World):Prop where
 os:w'.os=w.os
 tape:w'.tape=w.tape
 output:w'.output=w.output
 size:w.heap.size<=w'.heap.size
 block:∀k,k<w.heap.size->¬C k->w'.heap[k]?=w.heap[k]?
theorem Chg.refl (C:Nat->Prop)(w:World):Chg C w w:=⟨rfl,rfl,rfl,Nat.le_refl _,fun _ _ _=>rfl⟩
theorem Chg.trans {C:Nat->Prop}{w w' w'':World}(h:Chg C w w')(h':Chg C w' w''):Chg C w w'':=
 ⟨h'.os.trans h.os,h'.tape.trans h.tape,h'.output.trans h.output,Nat.le_trans h.size h'.size,fun k hk hc=>(h'.block k (Nat.lt_of_lt_of_le hk h.size) hc).trans (h.block k hk hc)⟩
theorem Chg.mono {C D:Nat->Prop}{w w':World}(h:Chg C w w')(hCD:∀k,C k->D k):Chg D w w':=⟨h.os,h.tape,h.output,h.size,fun k hk hc=>h.block k hk (fun hC=>hc (hCD k hC))⟩
theorem Chg.below {C:Nat->Prop}{w w':World}(h:Below w.heap.size w w'):Chg C w w':=⟨h.os,h.tape,h.output,h.size,fun k hk _=>h.block k hk⟩
theorem Chg.grown {C:Nat->Prop}{w w':World}{b:Nat}(h:w.grownBy w' (some b))(hb:C b):Chg C w w':=⟨h.os,h.tape,h.output,h.size,fun k hk hc=>h.block k hk (fun e=>by cases e;exact hc hb)⟩
theorem Chg.base {C:Nat->Prop}{w0 w w':World}(h:Chg C w w')(hb:Below w0.heap.size w0 w)(hC:∀k,C k->w0.heap.size<=k):Below w0.heap.size w0 w':=
 ⟨h.os.trans hb.os,h.tape.trans hb.tape,h.output.trans hb.output,Nat.le_trans hb.size h.size,fun k hk=>(h.block k (Nat.lt_of_lt_of_le hk hb.size) (fun hc=>by have:=hC k hc;omega)).trans (hb.block k hk)⟩
theorem Chg.boxN {C:Nat->Prop}{w w':World}(h:Chg C w w'){b:Nat}{t:TypeId}{l:List Value}(hb:BoxN w b t l)(hc:¬C b):BoxN w' b t l:=(h.block b hb.lt hc).trans hb
theorem Chg.atL {C S:Nat->Prop}{w w':World}(h:Chg C w w'){m:List M}{v:List Value}(ha:M.AtL S w m v)(hS:∀k,S k->¬C k):M.AtL S w' m v:=ha.keep (fun b hs hl=>⟨h.block b hl (hS b hs),hs⟩)
def zkF (w:World)(b:Nat)(t:TypeId)(row:List Value)(v:Value)(e:Ending)(w':World):Prop:=e=.returned v/\w.grownBy w' (some b)/\BoxN w' b t row
def zaO (n:Nat)(nl:Bool):Nat:=if nl then n+1 else n
theorem zbU {w:World}{b:Nat}{t:TypeId}{a n:Nat}{rest:List Value}(hb:BoxN w b t (.int .i64 (a:Int) :: .int .i64 (n:Int) :: rest))(ha:a<=2147483647)(hn:n<=2147483647)(nl:Bool)(c1 c2 c3:Value) :
  Calls Tryz.prog 139 #[.pointer (some ⟨b,0,none⟩),.agg #[.bool nl,c1,c2,c3]] w (zkF w b t (.int .i64 ((a+1:Nat):Int) :: .int .i64 ((zaO n nl:Nat):Int) :: rest) (.bool nl)):=by
 have p0:=hb.row 0 _ rfl;have p1:=hb.row 1 _ rfl;have z0:=hb.frozen 0;have z1:=hb.frozen 1;have hlt:=hb.lt;have hlt1:b<w.heap.size+1:=by omega
 have HF:Hid (∀(o:Obj) W2,W2=(if nl then(w.setCell ⟨b,0,none⟩ (.int .i64 ((a:Int)+1))).setCell ⟨b,1,none⟩ (.int .i64 ((n:Int)+1)) else w.setCell ⟨b,0,none⟩ (.int .i64 ((a:Int)+1))).alloc o->zkF w b t (.int .i64 ((a+1:Nat):Int) :: .int .i64 ((zaO n nl:Nat):Int) :: rest) (.bool nl) (.returned (.bool nl)) W2):=zh (by
  rintro o W2 rfl;refine⟨rfl,?_,?_⟩
  ·cases nl
   ·exact zad (zai _ _ _ _) (World.grownBy_alloc _ _ _)
   ·exact zad (zad (zai _ _ _ _) (zai _ _ _ _)) (World.grownBy_alloc _ _ _)
  ·cases nl
   ·exact(hb.set 0 (.int .i64 ((a:Int)+1))).alloc _
   ·exact((hb.set 0 (.int .i64 ((a:Int)+1))).set 1 (.int .i64 ((n:Int)+1))).alloc _)
 clear hb;cases nl with
 | true=>
  have HG:=zh (fun o=>HF.o o _ rfl);simp only[if_true] at HG;clear HF;generalize zkF w b t _ _=PP at *
  go_in
  go_wp2_with fail;exact HG.o _
 | false=>
  have HG:=zh (fun o=>HF.o o _ rfl);simp only[if_false,Bool.false_eq_true] at HG;clear HF;generalize zkF w b t _ _=PP at *
  go_in
  go_wp2_with fail;exact HG.o _
theorem zky {w:World}{b:Nat}{t:TypeId}{a:Nat}{rest:List Value}(hb:BoxN w b t (.int .i64 (a:Int) :: rest)):Calls Tryz.prog 135 #[.pointer (some ⟨b,0,none⟩)] w (zaz w (.int .i64 (a:Int))):=by
 have p0:=hb.row 0 _ rfl;clear hb
 go_in
 go_wp2_with fail;go_ret;exact⟨rfl,rfl⟩
end Go.Fld
