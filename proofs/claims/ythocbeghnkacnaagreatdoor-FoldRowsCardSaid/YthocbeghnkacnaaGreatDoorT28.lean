import Derived.Test.YthocbeghnkacnaaGreatDoorT09
import Derived.Test.YthocbeghnkacnaaGreatDoorT27
import Derived.Laws.MakeOwn
set_option linter.unusedVariables false
set_option linter.unusedSimpArgs false
set_option linter.unnecessarySimpa false
set_option maxRecDepth 100000
set_option maxHeartbeats 16000000
namespace Go.Fld
open Go Go.RowKit Go.Proofs Go.ChangeShapes Go.WideShapes Go.ChangeAt Go.Shelf
def zb5 (x:Nat):Value:=.int .u32 (x:Int)
def zaV (l:List Nat):M:=.many 1 (l.map fun x=>[.one (zb5 x)])
theorem zbq {S:Nat->Prop}{w:World}{l:List Nat}{p:Option Addr}{n cap:Nat}(h:M.At S w (zaV l) (.slice p n cap))(i:Nat)(hi:i<l.length):∃b o,p=some ⟨b,o,none⟩/\S b/\w.cell? ⟨b,o+i,none⟩=some (.int .u32 (l[i]:Int)):=by
 obtain⟨b,o,cs,rfl,hS,-,hc,hr⟩:=M.At.get h i (by simpa using hi);rw[List.getElem_map] at hr;obtain⟨_,rfl,h1⟩:=M.AtL.one hr;exact⟨b,o,rfl,hS,by have:=hc 0 _ rfl;simpa [zb5] using this⟩
theorem zba {S:Nat->Prop}{w:World}{l:List Nat}{p:Option Addr}{n cap:Nat}(h:M.At S w (zaV l) (.slice p n cap)):n=l.length/\n<=cap/\cap<=9223372036854775807:=by
 have:=zam h;simp only[List.length_map] at this;unfold maxLen at this;omega
theorem zi8 {S:Nat->Prop}{w:World}{l:List Nat}{p:Option Addr}{n cap:Nat}(h:M.At S w (zaV l) (.slice p n cap))(k:Nat)(hk:k<=l.length):M.At S w (zaV (l.take k)) (.slice p k cap):=by
 obtain⟨q',c',e,h1,h2⟩:=M.At.slice h;cases e;have hl:(l.take k).length=k:=by rw[List.length_take];omega
 have:=M.At.of (S:=S) (w:=w) (sz:=1) (rows:=(l.take k).map fun x=>[M.one (zb5 x)]) (p:=p) (cap:=cap) (by simp at h1 ⊢;omega) (M.RowsAt.mk (by decide) fun i hi=>?_)
 ·rw[List.length_map,hl] at this;exact this
 ·have hi':i<k:=by simp at hi;omega
  obtain⟨b,o,cs,e1,hS,h3,h4,h5⟩:=M.RowsAt.get h2 i (by simp;omega);refine⟨b,o,cs,e1,hS,h3,h4,?_⟩;rw[List.getElem_map] at h5 ⊢
  rwa [List.getElem_take]
def WordsPost (S:Nat->Prop)(w:World)(l:List Nat)(e:Ending)(w':World):Prop:=Below w.heap.size w w'/\∃q c,e=.returned (.slice q l.length c)/\M.At S w' (zaV l) (.slice q l.length c)
theorem zpT {l:List Nat}{n:Nat}(h:n<l.length):zdy l (n+1)=if l[n]=0 then zdy l n else n+1:=by
 show(if l[n]?=some 0 then zdy l n else n+1)=_;rw[List.getElem?_eq_getElem h];by_cases e:l[n]=0
 ·rw[if_pos (by rw[e]),if_pos e]
 ·rw[if_neg (by intro h2;exact e (Option.some.inj h2)),if_neg e]
theorem zdX {S:Nat->Prop}{w:World}{l:List Nat}{p:Option Addr}{n c:Nat}(hl:M.At S w (zaV l) (.slice p n c)):Calls Tryz.prog 165 #[.slice p n c] w (WordsPost S w (zeB l)):=by
 obtain⟨hn,hc1,hc2⟩:=zba hl;have HL:=zh hl;have HN:=zh hn;clear hl hn
 go_in
 go_wp2_with fail
 go_loopw [3] (fun k wr=>∃j:Nat,j<=n/\k=.int .i64 j/\wr=w/\Hid (zdy l l.length=zdy l j)) (fun k _=>(intOf k).toNat)
 case atStart=>exact⟨n,Nat.le_refl _,rfl,rfl,zh (by rw[HN.o])⟩
 case round=>
  obtain⟨j,hj,rfl,rfl,HJ⟩:=hrel;cases j with
  | zero=>
   have HE:=zh (show zeB l=l.take 0 by unfold zeB;rw[HJ.o];rfl);have HT:=zh (zi8 HL.o 0 (Nat.zero_le _));go_wp2_with fail;rw[HE.o];go_ret;exact⟨Below.refl _ _,p,c,rfl,HT.o⟩
  | succ j=>
   have hjl:j<l.length:=by have:=HN.o;omega
   obtain⟨b,o,rfl,-,s0⟩:=zbq HL.o j hjl;have HX:=zh (zpT hjl);have HT:=zh (zi8 HL.o (j+1) hjl);by_cases h0:l[j]=0
   ·have HX2:=zh (show zdy l l.length=zdy l j by rw[HJ.o,HX.o,if_pos h0]);rw[h0] at s0;clear h0 HX HJ HT;have hsub:((j+1:Nat):Int)-1=j:=by omega
    go_wp2_with fail;exact⟨⟨j,by omega,by go_num,trivial,HX2⟩,by simp[intOf]⟩
   ·have HX2:=zh (show zeB l=l.take (j+1) by unfold zeB;rw[HJ.o,HX.o,if_neg h0]);have HL2:=zh (show(l.take (j+1)).length=j+1 by rw[List.length_take];omega);have hb:((l[j]:Int) == 0)=false:=by simpa using h0
    generalize l[j]=x at *;clear h0 HX HJ;go_wp2_with fail;rw[HX2.o];go_ret;exact⟨Below.refl _ _,_,c,by rw[HL2.o];rfl,by rw[HL2.o];exact HT.o⟩
theorem zkb {S:Nat->Prop}{W:World}{b:Nat}{l:List Nat}(hb:BoxN W b 195 (l.map zb5))(hS:S b)(hm:l.length<=maxLen):M.At S W (zaV l) (.slice (some ⟨b,0,none⟩) l.length l.length):=by
 have:=M.At.of (S:=S) (w:=W) (sz:=1) (rows:=l.map fun x=>[M.one (zb5 x)]) (p:=some ⟨b,0,none⟩) (cap:=l.length) (by rw[List.length_map];exact⟨Nat.le_refl _,hm⟩) (M.RowsAt.mk (by decide) fun i hi=>?_)
 ·rwa [List.length_map] at this
 ·have hi':i<l.length:=by simpa using hi
  rw[List.getElem_map];refine⟨b,0,[zb5 l[i]],rfl,hS,rfl,fun j u hj=>?_,M.AtL.cons M.At.one M.AtL.nil⟩;have hj0:j=0:=by have:=(List.getElem?_eq_some_iff.1 hj).1;simpa using this
  subst hj0;have:=BoxN.row hb i (zb5 l[i]) (by rw[List.getElem?_map,List.getElem?_eq_getElem hi'];rfl);have e:u=zb5 l[i]:=by simpa using hj.symm
  rw[e];simpa using this
theorem zmt {w:World}{lo hi x:Nat}(h1:lo<4294967296)(h2:hi<4294967296)(hx:x=lo+4294967296*hi):Calls Tryz.prog 154 #[.int .u64 (x:Int)] w (WordsPost (fun b=>w.heap.size<=b) w (zeB [lo,hi])):=by
 have e1:(x:Int) % 4294967296=lo:=by omega
 have e2:(x:Int) / 4294967296=hi:=by omega
 have hxl:(x:Int)<18446744073709551616:=by omega
 obtain⟨W1,hW,a0,hBW⟩:=zao w 195 [zb5 lo,zb5 hi];have HW:=zh hW;have HT:=zh (zdX (zkb (S:=fun b=>w.heap.size<=b) (l:=[lo,hi]) a0 (Nat.le_refl _) (by show 2<=maxLen;unfold maxLen;omega)));have HB:=zh hBW;clear a0 hBW hW hx
 go_in
 go_wp2_with fail;rw[show w.alloc (Obj.cells #[.int .u32 (lo:Int),.int .u32 (hi:Int)] 195)=W1 from HW.o.symm];refine HT.o.mono ?_;rintro e W2 ⟨hb2,q,c,rfl,hat⟩;have HB2:=zh (HB.o.trans (hb2.mono HB.o.size));have HAT:=zh hat;clear hb2 hat;go_wp2_with fail;go_ret;exact⟨HB2.o,q,c,rfl,HAT.o⟩
theorem zra {lo hi:Nat}(h1:lo<4294967296)(h2:hi<4294967296):za3 [lo,hi]:=fun y hy=>by
 simp at hy;rcases hy with rfl|rfl <;> assumption
def zdu (x y:Nat):Int:=if x<y then -1 else if y<x then 1 else 0
theorem zgG {w:World}{l m:List Nat}{p q:Option Addr}{n k c d:Nat}(hl:M.At (fun _=>True) w (zaV l) (.slice p n c))(hm:M.At (fun _=>True) w (zaV m) (.slice q k d))(hcl:zbT l)(hcm:zbT m) :
  Calls Tryz.prog 163 #[.slice p n c,.slice q k d] w (zg7 w (.int .i64 (zdu (zag l) (zag m)))):=by
 obtain⟨hn,hc1,hc2⟩:=zba hl;obtain⟨hk,hd1,hd2⟩:=zba hm;have HL:=zh hl;have HM:=zh hm;have HN:=zh hn;have HK:=zh hk;have HCL:=zh hcl;have HCM:=zh hcm;obtain⟨R,hR⟩:=nm (zdu (zag l) (zag m));rw[<-hR];have HR:=zh hR;clear hl hm hn hk hcl hcm hR;by_cases hnk:n<k
 ·have HE:Hid (R=-1):=zh (by
   rw[HR.o];unfold zdu;rw[if_pos (ze8 HCL.o.1 HCM.o (by rw[<-HN.o,<-HK.o];exact hnk))])
  have hb:((n:Int) != (k:Int))=true:=by simp;omega
  go_in
  go_wp2_with fail;rw[HE.o];go_ret;exact⟨rfl,0,rfl⟩
 by_cases hkn:k<n
 ·have HE:Hid (R=1):=zh (by
   have h:=ze8 HCM.o.1 HCL.o (by rw[<-HN.o,<-HK.o];exact hkn);rw[HR.o];unfold zdu;rw[if_neg (by omega),if_pos h])
  have hb:((n:Int) != (k:Int))=true:=by simp;omega
  go_in
  go_wp2_with fail;rw[HE.o];go_ret;exact⟨rfl,0,rfl⟩
 ·obtain rfl:n=k:=by omega
  clear hnk hkn;have hb:((n:Int) != (n:Int))=false:=by simp
  go_in
  go_wp2_with fail
  go_loopw [5] (fun i wr=>∃j:Nat,j<=n/\i=.int .i64 ((j:Int)-1)/\Hid (∃t,wr=w.drewN t)/\Hid (l.drop j=m.drop j)) (fun i _=>(intOf i+1).toNat)
  case atStart=>exact⟨n,Nat.le_refl _,rfl,zh ⟨0,rfl⟩,zh (by rw[List.drop_eq_nil_of_le (by rw[<-HN.o];exact Nat.le_refl _),List.drop_eq_nil_of_le (by rw[<-HK.o];exact Nat.le_refl _)])⟩
  case round=>
   obtain⟨j,hj,rfl,HW,HD⟩:=hrel;cases j with
   | zero=>
    have HE:Hid (R=0):=zh (by
     have h:l=m:=by have:=HD.o;simpa using this
     rw[HR.o,h];unfold zdu;rw[if_neg (by omega),if_neg (by omega)])
    go_wp2_with fail;rw[HE.o];go_ret;exact⟨rfl,HW.o⟩
   | succ j=>
    have hjl:j<l.length:=by have:=HN.o;omega
    have hjm:j<m.length:=by have:=HK.o;omega
    obtain⟨t,ht⟩:=HW.o;have hbb:Below w.heap.size w wr:=by rw[ht];exact zab (Below.refl _ w) t
    obtain⟨b1,o1,rfl,-,s0⟩:=zbq (M.At.below hbb HL.o) j hjl;obtain⟨b2,o2,rfl,-,t0⟩:=zbq (M.At.below hbb HM.o) j hjm;have HHI:=zh (fun(h:l[j]<m[j])=>zka HCL.o.1 HCM.o.1 (by rw[<-HN.o,<-HK.o]) hjl HD.o h);have HLO:=zh (fun(h:m[j]<l[j])=>zka HCM.o.1 HCL.o.1 (by rw[<-HN.o,<-HK.o]) hjm HD.o.symm h);have HDR:=zh (fun(h:l[j]=m[j])=>show l.drop j=m.drop j by rw[List.drop_eq_getElem_cons hjl,List.drop_eq_getElem_cons hjm,HD.o,h]);have hsub:((j+1:Nat):Int)-1=j:=by omega
    have HT:=zh ht;clear ht hbb HD;generalize l[j]=x at *;generalize m[j]=y at *;rw[hsub];by_cases hxy:x=y
    ·have HD2:=zh (HDR.o hxy);subst hxy;have hbx:((x:Int) != (x:Int))=false:=by simp
     clear HHI HLO HDR;go_wp2_with fail
     go_quiet (fail)
     go_wp2_with fail;exact⟨⟨j,by omega,by go_num,zh ⟨_,by rw[HT.o,World.drewN_drewN]⟩,HD2⟩,by simp[intOf]⟩
    ·by_cases hlt:x<y
     ·have HE:Hid (R=-1):=zh (by rw[HR.o];unfold zdu;rw[if_pos (HHI.o hlt)]);have hbx:((x:Int) != (y:Int))=true:=by simp;omega
      clear HHI HLO HDR;go_wp2_with fail
      go_quiet (fail)
      go_wp2_with fail
      go_quiet (fail)
      go_wp2_with fail;rw[HE.o];go_ret;exact⟨rfl,_,by rw[HT.o,World.drewN_drewN,World.drewN_drewN]⟩
     ·have HE:Hid (R=1):=zh (by
       have h:=HLO.o (by omega);rw[HR.o];unfold zdu;rw[if_neg (by omega),if_pos h])
      have hbx:((x:Int) != (y:Int))=true:=by simp;omega
      have hle:¬((x:Int)<(y:Int)):=by omega
      clear HHI HLO HDR;go_wp2_with fail
      go_quiet (fail)
      go_wp2_with fail
      go_quiet (fail)
      go_wp2_with fail;rw[HE.o];go_ret;exact⟨rfl,_,by rw[HT.o,World.drewN_drewN,World.drewN_drewN]⟩
def zdY (n:Nat):Array Value:=((List.replicate n 0).map zb5).toArray
theorem zeC (W:World)(n:Nat)(h:n<=4096):(Instr.makeSlice 91 (.int .i64 (n:Int)) (.int .i64 (n:Int))).run Tryz.prog W=.ok (.slice (some ⟨W.heap.size,0,none⟩) n n) (W.alloc (.cells (zdY n) 195)):=by
 obtain⟨i,hi,hz,hs,hb⟩:∃i,Tryz.prog.info? 195=some i/\i.zero=some (.int .u32 0)/\i.size=1/\i.bytes=4:=⟨_,rfl,rfl,rfl,rfl⟩;have h1:=run_make (P:=Tryz.prog) W 91 195 i (.int .u32 0) (show Tryz.prog.underlying 91=some (.slice 195) by kernel_rfl) hi hz .i64 .i64 (n:Int) (n:Int) (by omega) (Int.le_refl _) (by rw[hb];omega) (by omega);rw[h1,Int.toNat_natCast,hs];unfold zdY;have h2:madeCells (Value.cells (.int .u32 0)) (n*1)=((List.replicate n 0).map zb5).toArray:=by
  apply Array.ext
  ·simp[size_madeCells]
  ·intro i h1 h2;simp[madeCells,Value.cells,Nat.mod_one,zb5]
 rw[h2]
def MakeW (w:World)(b n i:Nat)(l:List Nat):Prop:=BoxN w b 195 (l.map zb5)/\l.length=n/\za3 l/\∀j,i<=j->j<n->l[j]?=some 0
theorem MakeW.new (W:World)(n:Nat):MakeW (W.alloc (.cells (zdY n) 195)) W.heap.size n 0 (List.replicate n 0):=
 ⟨BoxN.new W 195 _,List.length_replicate ..,zlq n,fun j _ hj=>by rw[List.getElem?_replicate,if_pos hj]⟩
theorem MakeW.put {w:World}{b n i:Nat}{l:List Nat}(h:MakeW w b n i l)(hi:i<n){x:Nat}(hx:x<4294967296):MakeW (w.setCell ⟨b,i,none⟩ (.int .u32 (x:Int))) b n (i+1) (l.set i x)/\zag (l.set i x)=zag l+x*2 ^ (32*i):=by
 obtain⟨h1,h2,h3,h4⟩:=h;refine⟨⟨?_,by rw[List.length_set];exact h2,zi7 h3 i hx,fun j hj hjn=>?_⟩,ziF x (h4 i (Nat.le_refl _) hi)⟩
 ·have:=h1.set i (.int .u32 (x:Int));rw[List.map_set];exact this
 ·rw[List.getElem?_set_ne (by omega)];exact h4 j (by omega) hjn
theorem MakeW.get {w:World}{b n i:Nat}{l:List Nat}(h:MakeW w b n i l)(hi:i<n):w.cell? ⟨b,i,none⟩=some (.int .u32 0):=by
 have:=BoxN.row h.1 i (.int .u32 0) (by rw[List.getElem?_map,h.2.2.2 i (Nat.le_refl _) hi];rfl);simpa using this
theorem MakeW.words {S:Nat->Prop}{w:World}{b n i:Nat}{l:List Nat}(h:MakeW w b n i l)(hS:S b)(hn:n<=4096):M.At S w (zaV l) (.slice (some ⟨b,0,none⟩) n n):=by
 have:=zkb h.1 hS (by rw[h.2.1];unfold maxLen;omega)
 rwa [h.2.1] at this
theorem MakeW.val_lt {w:World}{b n i:Nat}{l:List Nat}(h:MakeW w b n i l):zag l<2 ^ (32*n):=by have:=zdV h.2.2.1;rwa [h.2.1] at this
def zcC (w:World)(v:Nat)(e:Ending)(w':World):Prop:=Below w.heap.size w w'/\∃l q c,e=.returned (.slice q l.length c)/\M.At (fun b=>w.heap.size<=b) w' (zaV l) (.slice q l.length c)/\zbT l/\zag l=v
theorem WordsPost.num {w:World}{l:List Nat}{e:Ending}{w':World}(h:WordsPost (fun b=>w.heap.size<=b) w (zeB l) e w')(hl:za3 l):zcC w (zag l) e w':=by
 obtain⟨hb,q,c,he,hat⟩:=h;exact⟨hb,zeB l,q,c,he,hat,zdp hl,zem l⟩
theorem zbl {w W:World}{b i:Nat}(h:Below w.heap.size w W)(hb:w.heap.size<=b)(v:Value):Below w.heap.size w (W.setCell ⟨b,i,none⟩ v):=h.setCell (p:=⟨b,i,none⟩) hb v
theorem zfn {T lo hi P:Nat}(h:T=lo+4294967296*hi):lo*P+hi*(4294967296*P)=T*P:=by
 rw[h,Nat.add_mul,<-Nat.mul_assoc,Nat.mul_comm hi]
theorem zny {w:World}{l m:List Nat}{p q:Option Addr}{n k c d:Nat}(hl:M.At (fun _=>True) w (zaV l) (.slice p n c))(hm:M.At (fun _=>True) w (zaV m) (.slice q k d))(hcl:za3 l)(hcm:za3 m)(hkn:k<=n)(hn4:n<=1000) :
  Calls Tryz.prog 162 #[.slice p n c,.slice q k d] w (zcC w (zag l+zag m)):=by
 obtain⟨hn,hc1,hc2⟩:=zba hl;obtain⟨hk,hd1,hd2⟩:=zba hm;have HL:=zh hl;have HM:=zh hm;have HN:=zh hn;have HK:=zh hk;have HCL:=zh hcl;have HCM:=zh hcm;obtain⟨N1,hN1⟩:=nm (n+1);have hmk:∀W:World,(Instr.makeSlice 91 (.int .i64 ((n:Int)+1)) (.int .i64 ((n:Int)+1))).run Tryz.prog W=.ok (.slice (some ⟨W.heap.size,0,none⟩) N1 N1) (W.alloc (.cells (zdY N1) 195)):=fun W=>by
  have:=zeC W N1 (by omega);rw[show(N1:Int)=(n:Int)+1 by omega] at this;exact this
 have hnN:n<N1:=by omega
 have hN4:N1<=1001:=by omega
 clear hN1;clear hl hm hn hk hcl hcm
 go_in
 go_wp2_with fail;clear hmk;obtain⟨W3,hW3⟩:=nm (w.alloc (.cells (zdY N1) 195));obtain⟨ub,hub⟩:=nm (w.heap.size);have HU:Hid (MakeW W3 ub N1 0 (List.replicate N1 0)):=zh (by rw[hW3,hub];exact MakeW.new w N1);have HB3:Hid (Below w.heap.size w W3):=zh (by rw[hW3];exact(Below.refl _ w).alloc (Nat.le_refl _) _);have HUB:=zh hub;rw[<-hW3,<-hub];clear hW3 hub
 go_loopw [6,7] (fun cv iv wr=>∃(i cc:Nat) (rl:List Nat),i<=n/\cc<=1/\cv=.int .u64 (cc:Int)/\iv=.int .i64 (i:Int)/\Hid (MakeW wr ub N1 i rl)/\Hid (Below w.heap.size w wr)/\Hid (zag rl+cc*2 ^ (32*i)=zag (l.take i)+zag (m.take i))) (fun _ iv _=>n-(intOf iv).toNat)
 case atStart=>exact⟨0,0,_,by omega,by omega,rfl,rfl,HU,HB3,zh (by rw[List.take_zero,List.take_zero,zdW];rfl)⟩
 case round=>
  obtain⟨i,cc,rl,hi,hcc,rfl,rfl,HM1,HB,HV⟩:=hrel;by_cases hlt:i<n
  ·have hil:i<l.length:=by have:=HN.o;omega
   obtain⟨b1,o1,rfl,-,s0⟩:=zbq (M.At.below HB.o HL.o) i hil;have hx:=HCL.o _ (List.getElem_mem hil);have HTL:=zh (zcV hil);have z0:=(HM1.o.1).frozen i;have u0:=HM1.o.get (by omega:i<N1);have hlu:=(HM1.o.1).lt;generalize l[i]=x at *;by_cases hik:i<k
   ·have him:i<m.length:=by have:=HK.o;omega
    obtain⟨b2,o2,rfl,-,t0⟩:=zbq (M.At.below HB.o HM.o) i him;have hy:=HCM.o _ (List.getElem_mem him);have HTM:=zh (zcV him);generalize m[i]=y at *;obtain⟨T,hT⟩:=nm (cc+x+y);have e0:(cc:Int)+(x:Int)+(y:Int)=T:=by omega
    have e1:(T:Int) % 4294967296=((T % 4294967296:Nat):Int):=by omega
    have e2:(T:Int) / 4294967296=((T / 4294967296:Nat):Int):=by omega
    have hlo:T % 4294967296<4294967296:=Nat.mod_lt _ (by decide);have hhi:T / 4294967296<=1:=by omega
    have HT:Hid (T=T % 4294967296+4294967296*(T / 4294967296)):=zh (by omega);have HTT:=zh hT;generalize T % 4294967296=lo at *;generalize T / 4294967296=hh at *;have hTb:(T:Int)<8589934592:=by omega
    have HPUT:=zh (HM1.o.put (by omega:i<N1) hlo);have hxI:(x:Int)<4294967296:=by omega
    have hyI:(y:Int)<4294967296:=by omega
    clear hy;clear hT hx hlo HM1;go_wp2_with fail;go_roundw
    case rel=>
     refine⟨i+1,hh,_,by omega,hhi,rfl,by go_num,zh HPUT.o.1,zh (zbl HB.o (by have:=HUB.o;omega) _),zh ?_⟩;rw[HPUT.o.2,HTL.o,HTM.o,zd7];have h1:=zfn (P:=2 ^ (32*i)) HT.o;have h2:=HV.o;rw[HTT.o,Nat.add_mul,Nat.add_mul] at h1;omega
    case measure=>simp[intOf];omega
   ·have HTM:=zh (zhy (l:=m) (i:=i) (by have:=HK.o;omega));obtain⟨T,hT⟩:=nm (cc+x);have e0:(cc:Int)+(x:Int)=T:=by omega
    have e1:(T:Int) % 4294967296=((T % 4294967296:Nat):Int):=by omega
    have e2:(T:Int) / 4294967296=((T / 4294967296:Nat):Int):=by omega
    have hlo:T % 4294967296<4294967296:=Nat.mod_lt _ (by decide);have hhi:T / 4294967296<=1:=by omega
    have HT:Hid (T=T % 4294967296+4294967296*(T / 4294967296)):=zh (by omega);have HTT:=zh hT;generalize T % 4294967296=lo at *;generalize T / 4294967296=hh at *;have hTb:(T:Int)<8589934592:=by omega
    have HPUT:=zh (HM1.o.put (by omega:i<N1) hlo);have hxI:(x:Int)<4294967296:=by omega
    clear hT hx hlo HM1;go_wp2_with fail;go_roundw
    case rel=>
     refine⟨i+1,hh,_,by omega,hhi,rfl,by go_num,zh HPUT.o.1,zh (zbl HB.o (by have:=HUB.o;omega) _),zh ?_⟩;rw[HPUT.o.2,HTL.o,HTM.o,zd7];have h1:=zfn (P:=2 ^ (32*i)) HT.o;have h2:=HV.o;rw[HTT.o,Nat.add_mul] at h1;omega
    case measure=>simp[intOf];omega
  ·obtain rfl:i=n:=by omega
   have z0:=(HM1.o.1).frozen i;have u0:=HM1.o.get (by omega:i<N1);have hlu:=(HM1.o.1).lt;have HPUT:=zh (HM1.o.put hnN (x:=cc) (by omega));have HV2:Hid (zag (rl.set i cc)=zag l+zag m):=zh (by
    have h2:=HV.o;rw[HPUT.o.2,h2,List.take_of_length_le (by rw[<-HN.o];exact Nat.le_refl _),List.take_of_length_le (by rw[<-HK.o];exact hkn)])
   have HB2:Hid (Below w.heap.size w (wr.setCell ⟨ub,i,none⟩ (.int .u32 (cc:Int)))):=zh (zbl HB.o (by have:=HUB.o;omega) _);have HTC:=zh (zdX (HPUT.o.1.words (S:=fun b=>w.heap.size<=b) (by have:=HUB.o;omega) (by omega)));have HSM:=zh HPUT.o.1.2.2.1;have ec:(cc:Int) % 4294967296=cc:=by omega
   clear hlt;go_wp2_with fail;refine HTC.o.mono ?_;rintro e W5 ⟨hb5,q5,c5,rfl,hat⟩;have HB5:=zh (HB2.o.trans (hb5.mono HB2.o.size));have HAT:=zh hat;clear hb5 hat;go_wp2_with fail;rw[<-HV2.o];go_ret;exact⟨HB5.o,_,q5,c5,rfl,HAT.o,zdp HSM.o,zem _⟩
theorem znz {w:World}{l m:List Nat}{p q:Option Addr}{n k c d:Nat}(hl:M.At (fun _=>True) w (zaV l) (.slice p n c))(hm:M.At (fun _=>True) w (zaV m) (.slice q k d))(hcl:za3 l)(hcm:za3 m)(hnk:n<k)(hk4:k<=1000) :
  Calls Tryz.prog 162 #[.slice p n c,.slice q k d] w (zcC w (zag m+zag l)):=by
 obtain⟨hk,hd1,hd2⟩:=zba hm;obtain⟨hn,hc1,hc2⟩:=zba hl;have HM:=zh hm;have HL:=zh hl;have HK:=zh hk;have HN:=zh hn;have HCM:=zh hcm;have HCL:=zh hcl;obtain⟨N1,hN1⟩:=nm (k+1);have hmk:∀W:World,(Instr.makeSlice 91 (.int .i64 ((k:Int)+1)) (.int .i64 ((k:Int)+1))).run Tryz.prog W=.ok (.slice (some ⟨W.heap.size,0,none⟩) N1 N1) (W.alloc (.cells (zdY N1) 195)):=fun W=>by
  have:=zeC W N1 (by omega);rw[show(N1:Int)=(k:Int)+1 by omega] at this;exact this
 have hnN:k<N1:=by omega
 have hN4:N1<=1001:=by omega
 clear hN1;clear hm hl hk hn hcm hcl
 go_in
 go_wp2_with fail;clear hmk;obtain⟨W3,hW3⟩:=nm (w.alloc (.cells (zdY N1) 195));obtain⟨ub,hub⟩:=nm (w.heap.size);have HU:Hid (MakeW W3 ub N1 0 (List.replicate N1 0)):=zh (by rw[hW3,hub];exact MakeW.new w N1);have HB3:Hid (Below w.heap.size w W3):=zh (by rw[hW3];exact(Below.refl _ w).alloc (Nat.le_refl _) _);have HUB:=zh hub;rw[<-hW3,<-hub];clear hW3 hub
 go_loopw [6,7] (fun cv iv wr=>∃(i cc:Nat) (rl:List Nat),i<=k/\cc<=1/\cv=.int .u64 (cc:Int)/\iv=.int .i64 (i:Int)/\Hid (MakeW wr ub N1 i rl)/\Hid (Below w.heap.size w wr)/\Hid (zag rl+cc*2 ^ (32*i)=zag (m.take i)+zag (l.take i))) (fun _ iv _=>k-(intOf iv).toNat)
 case atStart=>exact⟨0,0,_,by omega,by omega,rfl,rfl,HU,HB3,zh (by rw[List.take_zero,List.take_zero,zdW];rfl)⟩
 case round=>
  obtain⟨i,cc,rl,hi,hcc,rfl,rfl,HM1,HB,HV⟩:=hrel;by_cases hlt:i<k
  ·have hil:i<m.length:=by have:=HK.o;omega
   obtain⟨b1,o1,rfl,-,s0⟩:=zbq (M.At.below HB.o HM.o) i hil;have hx:=HCM.o _ (List.getElem_mem hil);have HTL:=zh (zcV hil);have z0:=(HM1.o.1).frozen i;have u0:=HM1.o.get (by omega:i<N1);have hlu:=(HM1.o.1).lt;generalize m[i]=x at *;by_cases hik:i<n
   ·have him:i<l.length:=by have:=HN.o;omega
    obtain⟨b2,o2,rfl,-,t0⟩:=zbq (M.At.below HB.o HL.o) i him;have hy:=HCL.o _ (List.getElem_mem him);have HTM:=zh (zcV him);generalize l[i]=y at *;obtain⟨T,hT⟩:=nm (cc+x+y);have e0:(cc:Int)+(x:Int)+(y:Int)=T:=by omega
    have e1:(T:Int) % 4294967296=((T % 4294967296:Nat):Int):=by omega
    have e2:(T:Int) / 4294967296=((T / 4294967296:Nat):Int):=by omega
    have hlo:T % 4294967296<4294967296:=Nat.mod_lt _ (by decide);have hhi:T / 4294967296<=1:=by omega
    have HT:Hid (T=T % 4294967296+4294967296*(T / 4294967296)):=zh (by omega);have HTT:=zh hT;generalize T % 4294967296=lo at *;generalize T / 4294967296=hh at *;have hTb:(T:Int)<8589934592:=by omega
    have HPUT:=zh (HM1.o.put (by omega:i<N1) hlo);have hxI:(x:Int)<4294967296:=by omega
    have hyI:(y:Int)<4294967296:=by omega
    clear hy;clear hT hx hlo HM1;go_wp2_with fail;go_roundw
    case rel=>
     refine⟨i+1,hh,_,by omega,hhi,rfl,by go_num,zh HPUT.o.1,zh (zbl HB.o (by have:=HUB.o;omega) _),zh ?_⟩;rw[HPUT.o.2,HTL.o,HTM.o,zd7];have h1:=zfn (P:=2 ^ (32*i)) HT.o;have h2:=HV.o;rw[HTT.o,Nat.add_mul,Nat.add_mul] at h1;omega
    case measure=>simp[intOf];omega
   ·have HTM:=zh (zhy (l:=l) (i:=i) (by have:=HN.o;omega));obtain⟨T,hT⟩:=nm (cc+x);have e0:(cc:Int)+(x:Int)=T:=by omega
    have e1:(T:Int) % 4294967296=((T % 4294967296:Nat):Int):=by omega
    have e2:(T:Int) / 4294967296=((T / 4294967296:Nat):Int):=by omega
    have hlo:T % 4294967296<4294967296:=Nat.mod_lt _ (by decide);have hhi:T / 4294967296<=1:=by omega
    have HT:Hid (T=T % 4294967296+4294967296*(T / 4294967296)):=zh (by omega);have HTT:=zh hT;generalize T % 4294967296=lo at *;generalize T / 4294967296=hh at *;have hTb:(T:Int)<8589934592:=by omega
    have HPUT:=zh (HM1.o.put (by omega:i<N1) hlo);have hxI:(x:Int)<4294967296:=by omega
    clear hT hx hlo HM1;go_wp2_with fail;go_roundw
    case rel=>
     refine⟨i+1,hh,_,by omega,hhi,rfl,by go_num,zh HPUT.o.1,zh (zbl HB.o (by have:=HUB.o;omega) _),zh ?_⟩;rw[HPUT.o.2,HTL.o,HTM.o,zd7];have h1:=zfn (P:=2 ^ (32*i)) HT.o;have h2:=HV.o;rw[HTT.o,Nat.add_mul] at h1;omega
    case measure=>simp[intOf];omega
  ·obtain rfl:i=k:=by omega
   have z0:=(HM1.o.1).frozen i;have u0:=HM1.o.get (by omega:i<N1);have hlu:=(HM1.o.1).lt;have HPUT:=zh (HM1.o.put hnN (x:=cc) (by omega));have HV2:Hid (zag (rl.set i cc)=zag m+zag l):=zh (by
    have h2:=HV.o;rw[HPUT.o.2,h2,List.take_of_length_le (by rw[<-HK.o];exact Nat.le_refl _),List.take_of_length_le (by rw[<-HN.o];exact Nat.le_of_lt hnk)])
   have HB2:Hid (Below w.heap.size w (wr.setCell ⟨ub,i,none⟩ (.int .u32 (cc:Int)))):=zh (zbl HB.o (by have:=HUB.o;omega) _);have HTC:=zh (zdX (HPUT.o.1.words (S:=fun b=>w.heap.size<=b) (by have:=HUB.o;omega) (by omega)));have HSM:=zh HPUT.o.1.2.2.1;have ec:(cc:Int) % 4294967296=cc:=by omega
   clear hlt;go_wp2_with fail;refine HTC.o.mono ?_;rintro e W5 ⟨hb5,q5,c5,rfl,hat⟩;have HB5:=zh (HB2.o.trans (hb5.mono HB2.o.size));have HAT:=zh hat;clear hb5 hat;go_wp2_with fail;rw[<-HV2.o];go_ret;exact⟨HB5.o,_,q5,c5,rfl,HAT.o,zdp HSM.o,zem _⟩
theorem zoF {w:World}{l m:List Nat}{p q:Option Addr}{n k c d:Nat}(hl:M.At (fun _=>True) w (zaV l) (.slice p n c))(hm:M.At (fun _=>True) w (zaV m) (.slice q k d))(hcl:za3 l)(hcm:za3 m)(hn4:n<=1000)(hk4:k<=1000) :
  Calls Tryz.prog 162 #[.slice p n c,.slice q k d] w (zcC w (zag l+zag m)):=by
 by_cases hkn:k<=n
 ·exact zny hl hm hcl hcm hkn hn4
 ·rw[Nat.add_comm];exact znz hl hm hcl hcm (by omega) hk4
end Go.Fld
