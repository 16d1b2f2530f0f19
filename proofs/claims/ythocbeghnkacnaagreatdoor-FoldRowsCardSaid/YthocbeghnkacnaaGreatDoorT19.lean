import Derived.Test.YthocbeghnkacnaaGreatDoorT18
import Derived.Laws.MakeOwn
import Derived.Deep.DeepCutAuto
set_option linter.unusedVariables false
set_option linter.unusedSimpArgs false
set_option linter.unnecessarySimpa false
set_option maxRecDepth 100000
set_option maxHeartbeats 16000000
namespace Go.Fld
open Go Go.RowKit Go.Proofs Go.ChangeShapes Go.WideShapes Go.ChangeAt Go.Shelf Go.Fld.Late
@[local go_sem] theorem run_make30 (W:World) (n:Nat) (h:n<=4096):(Instr.makeSlice 50 (.int .i64 (n:Int)) (.int .i64 (n:Int))).run Tryz.prog W=.ok (.slice (some ⟨W.heap.size,0,none⟩) n n) (W.alloc (.cells (List.replicate n (.int .i64 0)).toArray 3)):=by
 obtain⟨i,hi,hz,hs,hb⟩:∃i,Tryz.prog.info? 3=some i/\i.zero=some (.int .i64 0)/\i.size=1/\i.bytes=8:=⟨_,rfl,rfl,rfl,rfl⟩;have h1:=run_make (P:=Tryz.prog) W 50 3 i (.int .i64 0) Tryz.underlying50 hi hz .i64 .i64 (n:Int) (n:Int) (by omega) (Int.le_refl _) (by rw[hb];omega) (by omega);rw[h1,Int.toNat_natCast,hs];have h2:madeCells (Value.cells (.int .i64 0)) (n*1)=(List.replicate n (Value.int .i64 0)).toArray:=by
  apply Array.ext
  ·simp[size_madeCells]
  ·intro i h1 h2;simp[madeCells,Value.cells,Nat.mod_one]
 rw[h2]
theorem zdB {f:FuncId}{args:Array Value}{w:World}{n:Nat}{v:Value}
  (h:Calls Tryz.prog f args (w.drewN (1+n)) fun e w'=>e=.returned v/\∃m,w'=(w.drewN (1+n)).drewN m):Calls Tryz.prog f args (w.drewN (1+n)) fun e w''=>e=.returned v/\∃m,w''=w.drewN (1+m):=
 h.mono fun _ _ ⟨he,m,hm⟩=>⟨he,n+m,by rw[hm,World.drewN_drewN,Nat.add_assoc]⟩
def WtAt (w wx:World)(F D T C:List Value):Prop:=Below w.heap.size w wx/\BoxN wx w.heap.size 26 F/\BoxN wx (w.heap.size+1) 46 D/\BoxN wx (w.heap.size+1+1) 24 T/\BoxN wx (w.heap.size+1+1+1) 3 C
theorem WtAt.below {w wx wy:World}{F D T C:List Value}(h:WtAt w wx F D T C)(hb:Below wx.heap.size wx wy):WtAt w wy F D T C:=
 ⟨h.1.trans (hb.mono h.1.size),h.2.1.below hb h.2.1.lt,h.2.2.1.below hb h.2.2.1.lt,h.2.2.2.1.below hb h.2.2.2.1.lt,h.2.2.2.2.below hb h.2.2.2.2.lt⟩
theorem WtAt.drewN {w wx:World}{F D T C:List Value}(h:WtAt w wx F D T C)(k:Nat):WtAt w (wx.drewN k) F D T C:=h.below (zab (Below.refl _ wx) k)
theorem WtAt.set {w wx:World}{F D T C:List Value}(h:WtAt w wx F D T C)(i:Nat)(v:Value):WtAt w (wx.setCell ⟨w.heap.size+1+1+1,i,none⟩ v) F D T (C.set i v):=
 ⟨h.1.setCell (p:=⟨w.heap.size+1+1+1,i,none⟩) (by show w.heap.size<=w.heap.size+1+1+1;omega) _,h.2.1.other (by show w.heap.size≠w.heap.size+1+1+1;omega) _,h.2.2.1.other (by show w.heap.size+1≠w.heap.size+1+1+1;omega) _,h.2.2.2.1.other (by show w.heap.size+1+1≠w.heap.size+1+1+1;omega) _,h.2.2.2.2.set i v⟩
def zc9 (l:List Int)(n:Nat):List Value:=(l.map fun x=>Value.int .i64 x) ++ List.replicate (n-l.length) (.int .i64 0)
theorem zme {l:List Int}{n:Nat}(h:l.length<=n):(zc9 l n).length=n:=by unfold zc9;simp;omega
theorem ziw {l:List Int}{n:Nat}(h:l.length<n)(x:Int):(zc9 l n).set l.length (.int .i64 x)=zc9 (l ++ [x]) n:=by
 unfold zc9;obtain⟨m,hm⟩:∃m,n-l.length=m+1:=⟨n-l.length-1,by omega⟩;rw[hm,List.set_append_right _ _ (by simp),List.length_map,Nat.sub_self,List.replicate_succ,List.set_cons_zero,List.map_append,List.length_append,List.length_singleton,show n-(l.length+1)=m by omega];simp
theorem zom {l:List Int}{n:Nat}(h:l.length=n):zc9 l n=l.map fun x=>Value.int .i64 x:=by unfold zc9;rw[h,Nat.sub_self];simp
theorem zpB (w:World)(F D T:List Value)(n:Nat):∃W,W=(((w.alloc (.cells F.toArray 26)).alloc (.cells D.toArray 46)).alloc (.cells T.toArray 24)).alloc (.cells (Array.replicate n (Value.int .i64 0)) 3)/\WtAt w W F D T (zc9 [] n):=by
 obtain⟨W2,hW2,a0,a1,hB⟩:=zbt w 26 F 46 D;have hs:W2.heap.size=w.heap.size+1+1:=by rw[hW2,World.size_alloc,World.size_alloc]
 have hs3:(W2.alloc (.cells T.toArray 24)).heap.size=w.heap.size+1+1+1:=by rw[World.size_alloc,hs]
 refine⟨_,rfl,?_⟩;rw[<-hW2,<-List.toArray_replicate];have ho:zc9 [] n=List.replicate n (Value.int .i64 0):=by unfold zc9;simp
 rw[ho];exact⟨(hB.alloc hB.size _).alloc (hB.alloc hB.size _).size _,(a0.alloc _).alloc _,(a1.alloc _).alloc _,(BoxN.new' hs 24 T).alloc _,BoxN.new' hs3 3 _⟩
theorem zon {s:ByteArray}{eo r m:Nat}(hm:(r:Int)<s32 s (eo+m)):∀(fuel run:Nat),run<=m->adv s eo r fuel run<=m
 | 0,run,h=>h
 | fuel+1,run,h=>by
  unfold adv;split
  ·rename_i hc
   have:run≠m:=fun e=>by rw[e] at hc;omega
   exact zon hm fuel (run+1) (by omega)
  ·exact h
structure Runs (d:Dt)(n o m:Nat):Prop where
 kids:d.kids.length=2
 ends:∃o':Nat,(zbM d).off=o'/\(zbM d).len=((m+1:Nat):Int)/\o'+m+1<=4096/\((o+n:Nat):Int)<=s32 (buf (zbM d) 1) (o'+m)/\1<(zbM d).bufs.length/\4*(o'+m+1)<=(buf (zbM d) 1).size
 vals:∀h:1<d.kids.length,d.kids[1].len=((m+1:Nat):Int)
theorem Fit.runs {f:Fd}{d:Dt}{n o:Nat}(F:Fit f d n o)(hk:f.k=20)(hn:0<n)(he:f.k=20->∀h:1<d.kids.length,zbO d.kids[0] d.kids[1] ((o+n:Nat):Int)=0/\∃n' o',Fit endsF d.kids[0] n' o'):∃m,Runs d n o m:=by
 have h1:=zaW (zaE F.may).1 (.inr (.inr (.inr hk)));have hkl:d.kids.length=2:=by
  rw[F.nk];unfold zbY;rw[if_neg (by rw[F.may];simp[hk]),if_pos hk,h1]
 obtain⟨h2,n',o',G⟩:=he hk (by omega);have hk0:zbM d=d.kids[0]:=by unfold zbM;rw[List.getElem?_eq_getElem (show 0<d.kids.length by omega)];rfl
 obtain⟨m,rfl,hl,hab⟩:=zj0 h2 (by omega) n' o' G.len G.off;have hb:=G.nb;have hb2:zcY endsF.k.toNat=2:=by decide
 rw[hb2] at hb;have hs:=G.small 1 (by omega);have hw:zbK endsF=4:=by unfold zbK;rw[if_neg (by rw[G.may];decide)];decide
 have hnd:zaB endsF 1 (m+1+o') d.kids[0].bufs[1].size=((m+1+o':Nat):Int)*4:=by
  unfold zaB;rw[if_neg (by decide),if_neg (by omega),if_neg (by decide),if_neg (by decide),hw]
 rw[hnd] at hs;have hfew:=G.few;refine⟨m,hkl,⟨o',?_⟩,fun h=>?_⟩
 ·simp only[hk0];exact⟨G.off,G.len,by omega,hl,by omega,by rw[zb7 (show 1<d.kids[0].bufs.length by omega)];omega⟩
 ·rw[<-hab,G.len]
theorem Runs.le {f:Fd}{d:Dt}{n o m:Nat}(Rn:Runs d n o m)(ws:List (List Int))(hk:f.k=20):∀k,k<=n->(zca f d ws o k).2<=m
 | 0,_=>Nat.zero_le _
 | k+1,hkn=>by
  obtain⟨o',h1,h2,h3,h4,-⟩:=Rn.ends;have ih:=Rn.le ws hk k (by omega);unfold zca zcu;rw[if_neg (by unfold zaF zbX;rw[hk];simp)];show zce f d (o+k) _<=m;unfold zce;rw[if_pos hk];refine zon ?_ _ _ ih;rw[h1,Int.toNat_natCast];omega
theorem Fit.rng {f:Fd}{d:Dt}{n o:Nat}{ws:List (List Int)}(F:Fit f d n o)(W:Wd d ws)(hr:zaH f d=0)(k:Nat)(hlt:k<n) :
  (zbd f d (o+k)).1<=(zbd f d (o+k)).2/\((zbd f d (o+k)).1<(zbd f d (o+k)).2->∃h0:0<ws.length,(zbd f d (o+k)).2<=ws[0].length)/\(zbd f d (o+k)).1<=4294967296:=by
 by_cases h15:f.k=15
 ·obtain⟨h0,A,Z,hA,hZ,hAZ,hZw⟩:=F.items15 W h15 hr k hlt;have hb:=zcx (buf d 1) (o+k);rw[hA] at hb;have e1:(zbd f d (o+k)).1=A:=by unfold zbd;rw[if_pos h15];simp only[hA,Int.toNat_natCast]
  have e2:(zbd f d (o+k)).2=Z:=by unfold zbd;rw[if_pos h15];simp only[Nat.add_assoc,hZ,Int.toNat_natCast]
  rw[e1,e2];exact⟨hAZ,fun _=>⟨h0,hZw⟩,by omega⟩
 ·by_cases h16:f.k=16
  ·obtain⟨h0,m,hm,hm1,hm2,hmw⟩:=F.items16 W h16 k hlt;have few:=F.few;have e1:(zbd f d (o+k)).1=(o+k)*m:=by unfold zbd;rw[if_neg h15,if_pos h16];simp only[hm,Int.toNat_natCast]
   have e2:(zbd f d (o+k)).2=(o+k+1)*m:=by unfold zbd;rw[if_neg h15,if_pos h16];simp only[hm,Int.toNat_natCast]
   rw[e1,e2];exact⟨Nat.mul_le_mul_right m (by omega),fun _=>⟨h0,hmw⟩,Nat.le_trans (Nat.mul_le_mul (show o+k<=4096 by omega) hm2) (by decide)⟩
  ·have e:zbd f d (o+k)=(0,0):=by unfold zbd;rw[if_neg h15,if_neg h16]
   rw[e];exact⟨Nat.le_refl _,fun h=>absurd h (by decide),by decide⟩
theorem zmf {S:Nat->Prop}{W:World}{b:Nat}{l:List Int}(h:BoxN W b 3 (l.map fun x=>Value.int .i64 x))(hS:S b)(hl:l.length<=maxLen):M.At S W (zdQ l) (.slice (some ⟨b,0,none⟩) l.length l.length):=by
 have h1:(l.map fun x=>[M.one (.int .i64 x)]).length=l.length:=List.length_map _;have:=M.At.of (S:=S) (w:=W) (sz:=1) (rows:=l.map fun x=>[M.one (.int .i64 x)]) (p:=some ⟨b,0,none⟩) (cap:=l.length) ⟨by rw[h1];exact Nat.le_refl _,hl⟩ (M.RowsAt.mk (by decide) fun i hi=>?_)
 ·rw[h1] at this;exact this
 ·have hi':i<l.length:=by rwa [h1] at hi
  refine⟨b,0,[.int .i64 l[i]],rfl,hS,rfl,fun j u hj=>?_,?_⟩
  ·match j,hj with
   | 0,hj=>
    cases hj;rw[show 0+(0+i*1)+0=i by omega];exact h.row i (.int .i64 l[i]) (by rw[List.getElem?_map,List.getElem?_eq_getElem hi'];rfl)
  ·simp only[List.getElem_map];exact M.AtL.cons M.At.one M.AtL.nil
theorem zgx (base:Int)(l:List Int)(j:Nat)(hj:j<l.length):za9 base (l.take (j+1))=wrap64 (za9 base (l.take j)+l[j]):=by
 unfold za9;rw[List.take_add_one,List.getElem?_eq_getElem hj,List.foldl_append];rfl
theorem zfY {l:List Int}{A Z:Nat}(h:Z<=l.length):(zco l A Z).length=Z-A:=by unfold zco;simp;omega
theorem zpC {l:List Int}{A Z j:Nat}(h:Z<=l.length)(hj:j<(zco l A Z).length)(hj':A+j<l.length):(zco l A Z)[j]=l[A+j]:=by
 have h1:=zfY (A:=A) h;have h2:(zco l A Z)[j]?=l[A+j]?:=by
  unfold zco;rw[List.getElem?_take_of_lt (by omega),List.getElem?_drop]
 rw[List.getElem?_eq_getElem hj,List.getElem?_eq_getElem hj'] at h2;exact Option.some.inj h2
namespace Mix
theorem phase3 {P:Program}{Q:Exit->Act->World->Prop}{md:Region.Mode}(C:World->Prop){l:List Oper}(ph:List Nat){bl:List Oper}(hp:Picks l ph bl){listed:Array Bool}{ft:Nat}(hB:phaseC md l listed ph=true){a:Act}{w:World}(hC:C w)
  (h:wpQuiet P l.toArray C (fun a'=>∀w',C w'->wpAny P md l.toArray Q ft (setAll listed ph) a' w') bl a):wpAny P md l.toArray Q (ph.length+ft) listed a w:=by
 unfold phaseC at hB;simp only[Bool.and_eq_true] at hB;obtain⟨⟨⟨hs,hcl⟩,hw⟩,hst⟩:=hB;refine any_of ph.length listed a w hC (lex2 hs (fun i hi j hj hl hjp=>?_) rfl ph bl listed a hp (fun _ h=>h) (fun j hj=>getD_setAll_mem ph listed j hj) (fun _ h=>h) hcl hst h);have hlen:(masks md l []).length=l.length:=by rw[masks_length];simp
 have hjl:j<(masks md l []).length:=by rw[hlen];simpa using hj
 have hm:=waitB_spec (masks md l []) 0 hw j _ (List.getElem?_eq_getElem hjl) (by rw[Nat.zero_add];simpa using hl) (by rwa [Nat.zero_add]);refine masks_spec l [] (fun k o hk=>by simpa using hk) (fun j i hb=>by simp at hb) j i ?_;rw[List.getD_eq_getElem?_getD,List.getElem?_eq_getElem hjl,Option.getD_some];have hbit:(bitsOf ph).testBit i=true:=bits_mem ph 0 (.inr hi);rw[<-hm,Nat.testBit_and,Bool.and_eq_true] at hbit;exact hbit.1
end Mix
theorem zgV {w:World}{f:Fd}{d:Dt}{fs ds:List Value}{n o:Nat}{ws:List (List Int)}{q:Option Addr}{qc:Nat}(hf:FdAt w f fs)(hd:DAt (fun _=>True) w d ds)(F:Fit f d n o)(hr:zaH f d=0)(hw:M.At (fun _=>True) w (zk9 ws) (.slice q ws.length qc))(W:Wd d ws)
  (hib:∀e ∈ d.dict,zah e.len) (he:f.k=20->∀h:1<d.kids.length,zbO d.kids[0] d.kids[1] ((o+n:Nat):Int)=0/\∃n' o',Fit endsF d.kids[0] n' o') :
  Calls Tryz.prog 70 #[.agg fs.toArray,.agg ds.toArray,.slice q ws.length qc] w (fun e w'=>∃p c,e=.returned (.slice p n c)/\M.At (fun b=>w.heap.size<=b) w' (zdQ (zbo f d ws)) (.slice p n c)/\Below w.heap.size w w'):=by
 obtain⟨fp,fc,rfl,-⟩:=hf.shape;obtain⟨bp,bc,kp,kc,dp,dc,rfl,hbu,hki,hdi⟩:=hd.shape;obtain⟨-,hb1,hb2⟩:=zam hbu;obtain⟨-,hk1,hk2⟩:=zam hki;obtain⟨-,hq1,hq2⟩:=zam hw;simp only[List.length_map] at hb1 hk1 hq1;unfold maxLen at hb2 hk2 hq2;have HF:=zh hf;have HD:=zh hd;have HIB:=zh hib;have HBU:=zh hbu;have HKI:=zh hki;have HFIT:=zh F;have HWS:=zh hw;have HWD:=zh W;have HR:=zh hr;have HE:=zh he;have few:=F.few;have hn4:n<=4096:=by omega
 have ho4:o<=4096:=by omega
 rw[F.len,F.off];have HNN:=zh F.len;have HOO:=zh F.off;clear hf hd hbu hki hdi hib F hw W hr he;obtain⟨W0,hW0,x0⟩:=zpB w (f7 f fp fc) [.int .i64 n,.int .i64 o,.int .i64 d.nul,.slice bp d.bufs.length bc,.slice kp d.kids.length kc,.slice dp d.dict.length dc] [.int .i64 f.k,.int .i64 f.wd,.int .i64 f.id,.int .i64 f.ix,.slice fp f.kids.length fc] n;have X0:=zh x0;have HW:=zh hW0;clear x0 hW0
 go_in
 go_wp2_with fail;rw[<-HW.o];clear HW;have HI0:Hid (WtAt w W0 (f7 f fp fc) [.int .i64 n,.int .i64 o,.int .i64 d.nul,.slice bp d.bufs.length bc,.slice kp d.kids.length kc,.slice dp d.dict.length dc] [.int .i64 f.k,.int .i64 f.wd,.int .i64 f.id,.int .i64 f.ix,.slice fp f.kids.length fc] (zc9 (zca f d ws o 0).1 n)):=X0;have HI1:Hid ((zca f d ws o 0).2=0):=zh rfl
 go_loopw [26,9] (fun i t9 wx=>∃k:Nat,k<=n/\i=.int .i64 k/\t9=.int .i64 ((zca f d ws o k).2:Nat)/\Hid (WtAt w wx (f7 f fp fc) [.int .i64 n,.int .i64 o,.int .i64 d.nul,.slice bp d.bufs.length bc,.slice kp d.kids.length kc,.slice dp d.dict.length dc] [.int .i64 f.k,.int .i64 f.wd,.int .i64 f.id,.int .i64 f.ix,.slice fp f.kids.length fc] (zc9 (zca f d ws o k).1 n))) (fun i _ _=>n-(intOf i).toNat)
 case atStart=>exact⟨0,by omega,rfl,by rw[HI1.o];rfl,HI0⟩
 case round=>
  obtain⟨k,hk',rfl,rfl,HX⟩:=hrel;have hlen:=zd5 f d ws o k;by_cases hlt:k<n
  ·obtain⟨l,hl⟩:=nm ((zca f d ws o k).1);obtain⟨run,hrun⟩:=nm ((zca f d ws o k).2);rw[<-hl] at HX hlen;rw[<-hrun];have HL:=zh hl;have HRUN:=zh hrun;clear hl hrun;have hC:(zc9 l n).length=n:=zme (by omega);have HC:=zh hC;have HLEN:=zh hlen;have X:=HX.o;have rr1:=X.2.2.1.row 1 _ rfl;have z8:=X.2.2.2.2.frozen k;have hl3:=X.2.2.2.2.lt;obtain⟨old,hold⟩:∃old,wr.cell? ⟨w.heap.size+1+1+1,k,none⟩=some old:=⟨(zc9 l n)[k]'(by omega),X.2.2.2.2.row k _ (List.getElem?_eq_getElem _)⟩;clear X hC hlen
   go_upto_region 9 with fail
   have X1:=HX.o.set k (.int .i64 16);have X:=X1;obtain⟨wx,hwx⟩:=nm (wr.setCell ⟨w.heap.size+1+1+1,k,none⟩ (.int .i64 16));rw[<-hwx] at X X1 ⊢;have HX1:=zh X1;clear X1 hwx hold;obtain⟨p0,p1,p2,p3,p4,p5,p6⟩:=Fld.rr7 X.2.1.row;obtain⟨rr0,rr1,rr2,rr3,rr4,rr5⟩:=Fld.rr6 X.2.2.1.row;have hl1:=X.2.1.lt;have hl2:=X.2.2.1.lt;have hd':=HD.o.below X.1;rw[HNN.o,HOO.o] at hd';have HN:=zh (zfk (HF.o.below X.1) hd' HFIT.o.valid (o+k) (by omega));clear hd' X;go_wp2_with fail;refine HN.o.mono ?_;rintro e W2 ⟨rfl,hb2⟩;have HX2:=zh (HX1.o.below hb2);clear hb2 HN p0 p1 p2 p3 p4 p5 p6 rr0 rr1 rr2 rr3 rr4 rr5 hl1 hl2;cases hnb:zaF f.k d.bufs (o+k) with
   | true=>
    have HST:Hid (zca f d ws o (k+1)=(l ++ [16],run)):=zh (by
     unfold zca zcu;rw[if_pos hnb,<-HL.o,<-HRUN.o])
    clear hnb;go_wp2_with fail;exact⟨⟨k+1,by omega,by go_num,by rw[HST.o],zh (by
     rw[HST.o];have hx:=HX2.o;rw[<-HLEN.o,ziw (by have:=HLEN.o;omega)] at hx;exact hx)⟩,by simp only[intOf];omega⟩
   | false=>
    have HNB:=zh hnb;clear hnb
    go_upto_region 11 with fail
    have X:=HX2.o;have t0:=X.2.2.2.1.row 0 _ rfl;have hl3:=X.2.2.2.1.lt;clear X
    iterate 10 (first|go_values|go_skip|go_guarded|go_step|go_upon|go_back)
    obtain⟨R,hRdef⟩:=nm (zce f d (o+k) run);obtain⟨base,hbase⟩:=nm (zbC f d ws (o+k) R);obtain⟨A,hA⟩:=nm ((zbd f d (o+k)).1);obtain⟨Z,hZ⟩:=nm ((zbd f d (o+k)).2);have HRD:=zh hRdef;have HBASE:=zh hbase;have HA:=zh hA;have HZ:=zh hZ;clear hRdef hbase hA hZ
    go_cut [9,12,13,15,16] from 42 to 187 (fun t9 t12 t13 t15 t16 wx=>t9=.int .i64 (R:Nat)/\t12=.int .i64 (A:Nat)/\t13=.int .i64 (Z:Nat)/\Hid (WtAt w wx (f7 f fp fc) [.int .i64 n,.int .i64 o,.int .i64 d.nul,.slice bp d.bufs.length bc,.slice kp d.kids.length kc,.slice dp d.dict.length dc] [.int .i64 f.k,.int .i64 f.wd,.int .i64 f.id,.int .i64 f.ix,.slice fp f.kids.length fc] ((zc9 l n).set k (.int .i64 base))))
    case first=>
     have hout:W2.cell? ⟨w.heap.size+1+1+1,k,none⟩=some (.int .i64 16):=HX2.o.2.2.2.2.row k _ (by rw[List.getElem?_set_self (by rw[HC.o];omega)]);have hz8:=HX2.o.2.2.2.2.frozen k;have hl8:=HX2.o.2.2.2.2.lt;have hkn:(k:Int)<(n:Int):=by omega
     clear hl3 t0;by_cases hk:f.k=14
     ·as_aux_lemma=>
       have H20:Hid (f.k≠20->R=run):=zh (fun h=>by rw[HRD.o];unfold zce;rw[if_neg h]);have HRN:Hid (f.k≠15->f.k≠16->A=0/\Z=0):=zh (fun h1 h2=>by rw[HA.o,HZ.o];unfold zbd;rw[if_neg h1,if_neg h2];exact⟨rfl,rfl⟩);have HK:=zh hk;have q14:(f.k == 14)=true:=by simp;omega
       have HB:Hid (base=wrap64 (16+f.wd)):=zh (by rw[HBASE.o];unfold zbC;rw[if_pos hk]);clear hk;have t1:=HX2.o.2.2.2.1.row 1 _ rfl;go_wp2_with fail;refine Mix.region 9 (by kernel_rfl) rfl ?_;refine Mix.phase2 (ft:=1) (ph:=[0,1,2,3,4,5,6,7]) (by repeat constructor) (by kernel_rfl) ?_
       repeat (go_big_quiet_step (fail))
       refine wpQuiet_nil ?_;rintro _ ⟨nq,rfl⟩;refine Mix.alone (i:=8) (by kernel_rfl) rfl (by rfl) (fun K hK=>?_)
       go_step
       refine hK _ _ ?_;clear hK K;refine Mix.done (by kernel_rfl) ?_;have HX3:=zh (((HX2.o.drewN (1+nq)).set k (.int .i64 (wrap64 (16+f.wd)))));rw[List.set_set] at HX3;go_wp2_with fail;go_meet;exact⟨by rw[H20.o (by have:=HK.o;omega)],by rw[(HRN.o (by have:=HK.o;omega) (by have:=HK.o;omega)).1];rfl,by rw[(HRN.o (by have:=HK.o;omega) (by have:=HK.o;omega)).2];rfl,by rw[HB.o];exact HX3⟩
     by_cases hk:f.k=12
     ·as_aux_lemma=>
       have H20:Hid (f.k≠20->R=run):=zh (fun h=>by rw[HRD.o];unfold zce;rw[if_neg h]);have HRN:Hid (f.k≠15->f.k≠16->A=0/\Z=0):=zh (fun h1 h2=>by rw[HA.o,HZ.o];unfold zbd;rw[if_neg h1,if_neg h2];exact⟨rfl,rfl⟩);have HK:=zh hk;have q14:(f.k == 14)=false:=by simp;omega
       have q12:(f.k == 12)=true:=by simp;omega
       have hft:=HFIT.o.text (by have:=HK.o;omega);have hbl:1<d.bufs.length:=by have:=HK.o;omega
       obtain⟨bb,bo,yq,yc,ebp,-,hbc,hby⟩:=zbI HBU.o 1 hbl;subst ebp;obtain⟨⟨-,hy1,hy2⟩,-⟩:=zaZ hby;unfold maxLen at hy2;have t1:W2.cell? ⟨bb,bo+1,none⟩=some (.slice yq d.bufs[1].size yc):=zaa HX2.o.1 hbc;have rr3:=HX2.o.2.2.1.row 3 _ rfl;have hsz:=hft.2 hbl;obtain⟨v0,hv0⟩:∃v0,s32 d.bufs[1] (o+k)=v0:=⟨_,rfl⟩;obtain⟨v1,hv1⟩:∃v1,s32 d.bufs[1] (o+(k+1))=v1:=⟨_,rfl⟩;have hvb0:=zcx d.bufs[1] (o+k);have hvb1:=zcx d.bufs[1] (o+(k+1));rw[hv0] at hvb0;rw[hv1] at hvb1;have V1:=zh hv0;have V2:=zh hv1;have HB:Hid (base=16+(v1-v0)):=zh (by rw[HBASE.o];unfold zbC;rw[if_neg (by omega),if_pos (by omega),zb7 hbl,hv0,Nat.add_assoc o k 1,hv1]);clear hk hv0 hv1;have N1:Hid (∀t,Calls Tryz.prog 87 #[.slice yq d.bufs[1].size yc,.int .i64 ((o:Int)+(k:Int))] (W2.drewN (1+t)) (fun e w'=>e=.returned (.int .i64 v0)/\∃m,w'=(W2.drewN (1+t)).drewN m)):=zh (fun t=>by
        rw[show(o:Int)+(k:Int)=((o+k:Nat):Int) by omega,<-V1.o];exact za2 (hby.below (zab HX2.o.1 (1+t))) (o+k) (by omega))
       have N2:Hid (∀t,Calls Tryz.prog 87 #[.slice yq d.bufs[1].size yc,.int .i64 ((o:Int)+(k:Int)+1)] (W2.drewN (1+t)) (fun e w'=>e=.returned (.int .i64 v1)/\∃m,w'=(W2.drewN (1+t)).drewN m)):=zh (fun t=>by
        rw[show(o:Int)+(k:Int)+1=((o+(k+1):Nat):Int) by omega,<-V2.o];exact za2 (hby.below (zab HX2.o.1 (1+t))) (o+(k+1)) (by omega))
       clear hft hsz hby hbc;go_wp2_with fail;refine Mix.region 21 (by kernel_rfl) rfl ?_;refine Mix.phase2 (ft:=1) (ph:=[0,1,2,3,4,5,6,7,8,9,10,11,12,13,14,15,16,17,18,19]) (by repeat constructor) (by kernel_rfl) ?_
       repeat (go_big_quiet_step (first|(with_reducible exact zdB (N1.o _))|(with_reducible exact zdB (N2.o _))))
       refine wpQuiet_nil ?_;rintro _ ⟨nq,rfl⟩;refine Mix.alone (i:=20) (by kernel_rfl) rfl (by rfl) (fun K hK=>?_)
       go_step
       refine hK _ _ ?_;clear hK K;refine Mix.done (by kernel_rfl) ?_;have HX3:=zh (((HX2.o.drewN (1+nq)).set k (.int .i64 (16+(v1-v0)))));rw[List.set_set] at HX3;go_wp2_with fail;go_meet;exact⟨by rw[H20.o (by have:=HK.o;omega)],by rw[(HRN.o (by have:=HK.o;omega) (by have:=HK.o;omega)).1];rfl,by rw[(HRN.o (by have:=HK.o;omega) (by have:=HK.o;omega)).2];rfl,by rw[HB.o];exact HX3⟩
     by_cases hk:f.k=13
     ·as_aux_lemma=>
       have H20:Hid (f.k≠20->R=run):=zh (fun h=>by rw[HRD.o];unfold zce;rw[if_neg h]);have HRN:Hid (f.k≠15->f.k≠16->A=0/\Z=0):=zh (fun h1 h2=>by rw[HA.o,HZ.o];unfold zbd;rw[if_neg h1,if_neg h2];exact⟨rfl,rfl⟩);have HK:=zh hk;have q14:(f.k == 14)=false:=by simp;omega
       have q12:(f.k == 12)=false:=by simp;omega
       have q13:(f.k == 13)=true:=by simp;omega
       have hft:=HFIT.o.text (by have:=HK.o;omega);have hbl:1<d.bufs.length:=by have:=HK.o;omega
       obtain⟨bb,bo,yq,yc,ebp,-,hbc,hby⟩:=zbI HBU.o 1 hbl;subst ebp;obtain⟨⟨-,hy1,hy2⟩,-⟩:=zaZ hby;unfold maxLen at hy2;have t1:W2.cell? ⟨bb,bo+1,none⟩=some (.slice yq d.bufs[1].size yc):=zaa HX2.o.1 hbc;have rr3:=HX2.o.2.2.1.row 3 _ rfl;have hsz:=hft.2 hbl;obtain⟨v0,hv0⟩:∃v0,s32 d.bufs[1] (o+k)=v0:=⟨_,rfl⟩;obtain⟨v1,hv1⟩:∃v1,s32 d.bufs[1] (o+(k+1))=v1:=⟨_,rfl⟩;have hvb0:=zcx d.bufs[1] (o+k);have hvb1:=zcx d.bufs[1] (o+(k+1));rw[hv0] at hvb0;rw[hv1] at hvb1;have V1:=zh hv0;have V2:=zh hv1;have HB:Hid (base=16+(v1-v0)):=zh (by rw[HBASE.o];unfold zbC;rw[if_neg (by omega),if_pos (by omega),zb7 hbl,hv0,Nat.add_assoc o k 1,hv1]);clear hk hv0 hv1;have N1:Hid (∀t,Calls Tryz.prog 87 #[.slice yq d.bufs[1].size yc,.int .i64 ((o:Int)+(k:Int))] (W2.drewN (1+t)) (fun e w'=>e=.returned (.int .i64 v0)/\∃m,w'=(W2.drewN (1+t)).drewN m)):=zh (fun t=>by
        rw[show(o:Int)+(k:Int)=((o+k:Nat):Int) by omega,<-V1.o];exact za2 (hby.below (zab HX2.o.1 (1+t))) (o+k) (by omega))
       have N2:Hid (∀t,Calls Tryz.prog 87 #[.slice yq d.bufs[1].size yc,.int .i64 ((o:Int)+(k:Int)+1)] (W2.drewN (1+t)) (fun e w'=>e=.returned (.int .i64 v1)/\∃m,w'=(W2.drewN (1+t)).drewN m)):=zh (fun t=>by
        rw[show(o:Int)+(k:Int)+1=((o+(k+1):Nat):Int) by omega,<-V2.o];exact za2 (hby.below (zab HX2.o.1 (1+t))) (o+(k+1)) (by omega))
       clear hft hsz hby hbc;go_wp2_with fail;refine Mix.region 21 (by kernel_rfl) rfl ?_;refine Mix.phase2 (ft:=1) (ph:=[0,1,2,3,4,5,6,7,8,9,10,11,12,13,14,15,16,17,18,19]) (by repeat constructor) (by kernel_rfl) ?_
       repeat (go_big_quiet_step (first|(with_reducible exact zdB (N1.o _))|(with_reducible exact zdB (N2.o _))))
       refine wpQuiet_nil ?_;rintro _ ⟨nq,rfl⟩;refine Mix.alone (i:=20) (by kernel_rfl) rfl (by rfl) (fun K hK=>?_)
       go_step
       refine hK _ _ ?_;clear hK K;refine Mix.done (by kernel_rfl) ?_;have HX3:=zh (((HX2.o.drewN (1+nq)).set k (.int .i64 (16+(v1-v0)))));rw[List.set_set] at HX3;go_wp2_with fail;go_meet;exact⟨by rw[H20.o (by have:=HK.o;omega)],by rw[(HRN.o (by have:=HK.o;omega) (by have:=HK.o;omega)).1];rfl,by rw[(HRN.o (by have:=HK.o;omega) (by have:=HK.o;omega)).2];rfl,by rw[HB.o];exact HX3⟩
     by_cases hk:f.k=15
     ·as_aux_lemma=>
       have H20:Hid (f.k≠20->R=run):=zh (fun h=>by rw[HRD.o];unfold zce;rw[if_neg h]);have HRN:Hid (f.k≠15->f.k≠16->A=0/\Z=0):=zh (fun h1 h2=>by rw[HA.o,HZ.o];unfold zbd;rw[if_neg h1,if_neg h2];exact⟨rfl,rfl⟩);have HK:=zh hk;have q14:(f.k == 14)=false:=by simp;omega
       have q12:(f.k == 12)=false:=by simp;omega
       have q13:(f.k == 13)=false:=by simp;omega
       have q15:(f.k == 15)=true:=by simp;omega
       have hft:=HFIT.o.list HK.o;have hbl:1<d.bufs.length:=by have:=HK.o;omega
       obtain⟨bb,bo,yq,yc,ebp,-,hbc,hby⟩:=zbI HBU.o 1 hbl;subst ebp;obtain⟨⟨-,hy1,hy2⟩,-⟩:=zaZ hby;unfold maxLen at hy2;have t1:W2.cell? ⟨bb,bo+1,none⟩=some (.slice yq d.bufs[1].size yc):=zaa HX2.o.1 hbc;have rr3:=HX2.o.2.2.1.row 3 _ rfl;have hsz:=hft.2.2 hbl;obtain⟨h0,A1,Z1,hA1,hZ1,hAZ,hZw⟩:=HFIT.o.items15 HWD.o HK.o HR.o k hlt;have hA2:A=A1:=by rw[HA.o];unfold zbd;rw[if_pos hk,hA1];rfl
       have hZ2:Z=Z1:=by rw[HZ.o];unfold zbd;rw[if_pos hk,Nat.add_assoc o k 1,hZ1];rfl
       subst hA2 hZ2;rw[zb7 hbl] at hA1 hZ1;have V1:=zh hA1;have V2:=zh hZ1;have HB:Hid (base=16):=zh (by rw[HBASE.o];unfold zbC;rw[if_neg (by omega),if_neg (by omega),if_neg (by omega),if_neg (by omega),if_neg (by omega),if_neg (by omega)]);clear hk hA1 hZ1;have N1:Hid (∀t,Calls Tryz.prog 87 #[.slice yq d.bufs[1].size yc,.int .i64 ((o:Int)+(k:Int))] (W2.drewN (1+t)) (fun e w'=>e=.returned (.int .i64 (A:Int))/\∃m,w'=(W2.drewN (1+t)).drewN m)):=zh (fun t=>by
        rw[show(o:Int)+(k:Int)=((o+k:Nat):Int) by omega,<-V1.o];exact za2 (hby.below (zab HX2.o.1 (1+t))) (o+k) (by omega))
       have N2:Hid (∀t,Calls Tryz.prog 87 #[.slice yq d.bufs[1].size yc,.int .i64 ((o:Int)+(k:Int)+1)] (W2.drewN (1+t)) (fun e w'=>e=.returned (.int .i64 (Z:Int))/\∃m,w'=(W2.drewN (1+t)).drewN m)):=zh (fun t=>by
        rw[show(o:Int)+(k:Int)+1=((o+(k+1):Nat):Int) by omega,<-V2.o];exact za2 (hby.below (zab HX2.o.1 (1+t))) (o+(k+1)) (by omega))
       clear hft hsz hby hbc h0 hZw;go_wp2_with fail;refine Mix.region 15 (by kernel_rfl) rfl ?_;refine Mix.phase2 (ft:=0) (ph:=[0,1,2,3,4,5,6,7,8,9,10,11,12,13,14]) (by repeat constructor) (by kernel_rfl) ?_
       repeat (go_big_quiet_step (first|(with_reducible exact zdB (N1.o _))|(with_reducible exact zdB (N2.o _))))
       refine wpQuiet_nil ?_;rintro _ ⟨nq,rfl⟩;refine Mix.done (by kernel_rfl) ?_;have HX3:=zh ((HX2.o.drewN 1).drewN nq);go_wp2_with fail;go_meet;exact⟨by rw[H20.o (by have:=HK.o;omega)],rfl,rfl,by rw[HB.o];exact HX3⟩
     by_cases hk:f.k=16
     ·as_aux_lemma=>
       have H20:Hid (f.k≠20->R=run):=zh (fun h=>by rw[HRD.o];unfold zce;rw[if_neg h]);have HRN:Hid (f.k≠15->f.k≠16->A=0/\Z=0):=zh (fun h1 h2=>by rw[HA.o,HZ.o];unfold zbd;rw[if_neg h1,if_neg h2];exact⟨rfl,rfl⟩);have HK:=zh hk;have q14:(f.k == 14)=false:=by simp;omega
       have q12:(f.k == 12)=false:=by simp;omega
       have q13:(f.k == 13)=false:=by simp;omega
       have q15:(f.k == 15)=false:=by simp;omega
       have q16:(f.k == 16)=true:=by simp;omega
       obtain⟨h0,m,hm,hm1,hm2,hmw⟩:=HFIT.o.items16 HWD.o HK.o k hlt;have hA2:((o:Int)+(k:Int))*f.wd=(A:Int):=by
        rw[HA.o];unfold zbd;rw[if_neg (by omega),if_pos hk,hm,Int.toNat_natCast];push_cast;rfl
       have hZ2:((o:Int)+(k:Int)+1)*f.wd=(Z:Int):=by
        rw[HZ.o];unfold zbd;rw[if_neg (by omega),if_pos hk,hm,Int.toNat_natCast];push_cast;rfl
       have hA4:A<=1000000:=by
        rw[HA.o];unfold zbd;rw[if_neg (by omega),if_pos hk,hm,Int.toNat_natCast];exact Nat.le_trans (Nat.mul_le_mul (show o+k<=4096 by omega) hm2) (by decide)
       have hZ4:Z<=1000000:=by
        rw[HZ.o];unfold zbd;rw[if_neg (by omega),if_pos hk,hm,Int.toNat_natCast];exact Nat.le_trans (Nat.mul_le_mul (show o+k+1<=4096 by omega) hm2) (by decide)
       have HB:Hid (base=16):=zh (by rw[HBASE.o];unfold zbC;rw[if_neg (by omega),if_neg (by omega),if_neg (by omega),if_neg (by omega),if_neg (by omega),if_neg (by omega)]);have t1:=HX2.o.2.2.2.1.row 1 _ rfl;clear hk h0 hm hm1 hm2 hmw;go_wp2_with fail;refine Mix.region 11 (by kernel_rfl) rfl ?_;refine Mix.phase2 (ft:=0) (ph:=[0,1,2,3,4,5,6,7,8,9,10]) (by repeat constructor) (by kernel_rfl) ?_
       repeat (go_big_quiet_step (fail))
       refine wpQuiet_nil ?_;rintro _ ⟨nq,rfl⟩;refine Mix.done (by kernel_rfl) ?_;have HX3:=zh ((HX2.o.drewN 1).drewN nq);go_wp2_with fail;go_meet;exact⟨by rw[H20.o (by have:=HK.o;omega)],rfl,rfl,by rw[HB.o];exact HX3⟩
     by_cases hk:f.k=17
     ·as_aux_lemma=>
       have H20:Hid (f.k≠20->R=run):=zh (fun h=>by rw[HRD.o];unfold zce;rw[if_neg h]);have HRN:Hid (f.k≠15->f.k≠16->A=0/\Z=0):=zh (fun h1 h2=>by rw[HA.o,HZ.o];unfold zbd;rw[if_neg h1,if_neg h2];exact⟨rfl,rfl⟩);have HK:=zh hk;have q14:(f.k == 14)=false:=by simp;omega
       have q12:(f.k == 12)=false:=by simp;omega
       have q13:(f.k == 13)=false:=by simp;omega
       have q15:(f.k == 15)=false:=by simp;omega
       have q16:(f.k == 16)=false:=by simp;omega
       have q17:(f.k == 17)=true:=by simp;omega
       have HB:Hid (base=zcM ws (o+k) ws.length):=zh (by rw[HBASE.o];unfold zbC;rw[if_neg (by omega),if_neg (by omega),if_pos hk]);clear hk;go_wp2_with fail;have HS0:Hid (zcM ws (o+k) 0=16):=zh rfl
       go_loopw [105] (fun i wx=>∃j:Nat,j<=ws.length/\i=.int .i64 j/\Hid (WtAt w wx (f7 f fp fc) [.int .i64 n,.int .i64 o,.int .i64 d.nul,.slice bp d.bufs.length bc,.slice kp d.kids.length kc,.slice dp d.dict.length dc] [.int .i64 f.k,.int .i64 f.wd,.int .i64 f.id,.int .i64 f.ix,.slice fp f.kids.length fc] ((zc9 l n).set k (.int .i64 (zcM ws (o+k) j))))) (fun i _=>ws.length-(intOf i).toNat)
       case atStart=>exact⟨0,Nat.zero_le _,rfl,by rw[HS0.o];exact HX2⟩
       case round=>
        obtain⟨j,hj,rfl,HY⟩:=hrel;by_cases hjl:j<ws.length
        ·have hjw:=HFIT.o.items17 HWD.o HK.o k hlt j hjl;obtain⟨qb,qo,iq,ic,eq,-,hqc,hqi⟩:=zhk HWS.o j hjl;subst eq;obtain⟨⟨-,hi1,hi2⟩,hi3⟩:=zee hqi;obtain⟨ib,io,eiq,-,hic⟩:=hi3 (o+k) hjw;subst eiq;unfold maxLen at hi2;have HST:Hid (zcM ws (o+k) (j+1)=wrap64 (zcM ws (o+k) j+ws[j][o+k])):=zh (by rw[<-zgd hjl hjw];rfl);obtain⟨xv,hxv⟩:=nm (ws[j][o+k]);rw[<-hxv] at HST hic;obtain⟨tl,htl⟩:=nm (ws[j].length);rw[<-htl] at hqc hjw hi1;obtain⟨sj,hsj⟩:=nm (zcM ws (o+k) j);rw[<-hsj] at HST HY;have t3:wr.cell? ⟨qb,qo+j,none⟩=some (.slice (some ⟨ib,io,none⟩) tl ic):=zaa HY.o.1 hqc;have t4:wr.cell? ⟨ib,io+(o+k),none⟩=some (.int .i64 xv):=zaa HY.o.1 hic;have hok:(o:Int)+(k:Int)<(tl:Int):=by omega
         have hout:=HY.o.2.2.2.2.row k _ (List.getElem?_set_self (by rw[HC.o];omega));have hz8:=HY.o.2.2.2.2.frozen k;have hl8:=HY.o.2.2.2.2.lt;clear hxv htl hsj hqc hqi hi3 hic;go_wp2_with fail;refine Mix.region 11 (by kernel_rfl) rfl ?_;refine Mix.phase2 (ft:=1) (ph:=[0,1,2,3,4,5,6,7,8,9]) (by repeat constructor) (by kernel_rfl) ?_
         repeat (go_big_quiet_step (fail))
         refine wpQuiet_nil ?_;rintro _ ⟨nq,rfl⟩;refine Mix.alone (i:=10) (by kernel_rfl) rfl (by rfl) (fun K hK=>?_)
         go_step
         refine hK _ _ ?_;clear hK K;refine Mix.done (by kernel_rfl) ?_;have HX3:=zh (((HY.o.drewN (1+nq)).set k (.int .i64 (wrap64 (sj+xv)))));rw[List.set_set] at HX3;go_wp2_with fail;go_roundw
         case rel=>exact⟨j+1,by omega,by go_num,by rw[HST.o];exact HX3⟩
         case measure=>simp only[intOf];omega
        ·obtain rfl:j=ws.length:=by omega
         go_wp2_with fail;go_meet;exact⟨by rw[H20.o (by have:=HK.o;omega)],by rw[(HRN.o (by have:=HK.o;omega) (by have:=HK.o;omega)).1];rfl,by rw[(HRN.o (by have:=HK.o;omega) (by have:=HK.o;omega)).2];rfl,by rw[HB.o];exact HY⟩
     by_cases hk:f.k=18
     ·as_aux_lemma=>
       have H20:Hid (f.k≠20->R=run):=zh (fun h=>by rw[HRD.o];unfold zce;rw[if_neg h]);have HRN:Hid (f.k≠15->f.k≠16->A=0/\Z=0):=zh (fun h1 h2=>by rw[HA.o,HZ.o];unfold zbd;rw[if_neg h1,if_neg h2];exact⟨rfl,rfl⟩);have HK:=zh hk;have q14:(f.k == 14)=false:=by simp;omega
       have q12:(f.k == 12)=false:=by simp;omega
       have q13:(f.k == 13)=false:=by simp;omega
       have q15:(f.k == 15)=false:=by simp;omega
       have q16:(f.k == 16)=false:=by simp;omega
       have q17:(f.k == 17)=false:=by simp;omega
       have q18:(f.k == 18)=true:=by simp;omega
       obtain⟨hl2,-,hs0,hs1⟩:=HFIT.o.choice HK.o;have hb0:0<d.bufs.length:=by omega
       have hbl:1<d.bufs.length:=by have:=HK.o;omega
       obtain⟨bb,bo,yq,yc,ebp,-,hbc,hby⟩:=zbI HBU.o 1 hbl;subst ebp;obtain⟨⟨-,hy1,hy2⟩,-⟩:=zaZ hby;unfold maxLen at hy2;have t1:W2.cell? ⟨bb,bo+1,none⟩=some (.slice yq d.bufs[1].size yc):=zaa HX2.o.1 hbc;have rr3:=HX2.o.2.2.1.row 3 _ rfl;clear hl2;obtain⟨bb',bo',zq,zc,ebp',-,hzc,hbz⟩:=zbI HBU.o 0 hb0;cases ebp';obtain⟨⟨-,hz1,hz2⟩,hz3⟩:=zaZ hbz;obtain⟨yb,yo,ezq,-,hyc⟩:=hz3 (o+k) (by have:=hs0 hb0;omega);subst ezq;unfold maxLen at hz2;obtain⟨c,v,hc,hv,hcw,hvw⟩:=HFIT.o.items18 HWD.o HK.o HR.o k hlt;rw[zb7 hb0] at hc;rw[zb7 hbl] at hv;obtain⟨qb,qo,iq,ic,eq,-,hqc,hqi⟩:=zhk HWS.o c hcw;subst eq;obtain⟨⟨-,hi1,hi2⟩,hi3⟩:=zee hqi;obtain⟨ib,io,eiq,-,hic⟩:=hi3 v hvw;subst eiq;unfold maxLen at hi2;have HB:Hid (base=wrap64 (16+ws[c][v])):=zh (by rw[HBASE.o];unfold zbC;rw[if_neg (by omega),if_neg (by omega),if_neg (by omega),if_pos hk,zb7 hb0,zb7 hbl,hc,hv,Int.toNat_natCast,Int.toNat_natCast,zgd hcw hvw]);obtain⟨xv,hxv⟩:=nm (ws[c][v]);rw[<-hxv] at HB hic;obtain⟨tl,htl⟩:=nm (ws[c].length);rw[<-htl] at hqc hvw hi1;obtain⟨bz,hbz'⟩:∃bz,bz=d.bufs[0].size:=⟨_,rfl⟩;have hsz:=hs1 hbl;have hs0':=hs0 hb0;rw[<-hbz'] at hzc hs0' hz1;rw[hc] at hyc;have V1:=zh hv;have t0:W2.cell? ⟨bb,bo+0,none⟩=some (.slice (some ⟨yb,yo,none⟩) bz zc):=zaa HX2.o.1 hzc;rw[Nat.add_zero] at t0;have t2:W2.cell? ⟨yb,yo+(o+k),none⟩=some (.int .u8 (c:Int)):=zaa HX2.o.1 hyc;have t3:W2.cell? ⟨qb,qo+c,none⟩=some (.slice (some ⟨ib,io,none⟩) tl ic):=zaa HX2.o.1 hqc;have t4:W2.cell? ⟨ib,io+v,none⟩=some (.int .i64 xv):=zaa HX2.o.1 hic;have hok:(o:Int)+(k:Int)<(bz:Int):=by omega
       have hcz:(c:Int)<(ws.length:Int):=by omega
       have hvz:(v:Int)<(tl:Int):=by omega
       clear hk hv hc hxv htl hbz' hs0 hs1 hzc hyc hqc hqi hi3 hic hz3;have N1:Hid (∀t,Calls Tryz.prog 87 #[.slice yq d.bufs[1].size yc,.int .i64 ((o:Int)+(k:Int))] (W2.drewN (1+t)) (fun e w'=>e=.returned (.int .i64 (v:Int))/\∃m,w'=(W2.drewN (1+t)).drewN m)):=zh (fun t=>by
        rw[show(o:Int)+(k:Int)=((o+k:Nat):Int) by omega,<-V1.o];exact za2 (hby.below (zab HX2.o.1 (1+t))) (o+k) (by omega))
       clear hsz hby hbc hbz;go_wp2_with fail;refine Mix.region 25 (by kernel_rfl) rfl ?_;refine Mix.phase2 (ft:=1) (ph:=[0,1,2,3,4,5,6,7,8,9,10,11,12,13,14,15,16,17,18,19,20,21,22,23]) (by repeat constructor) (by kernel_rfl) ?_
       repeat (go_big_quiet_step ((with_reducible exact zdB (N1.o _))))
       refine wpQuiet_nil ?_;rintro _ ⟨nq,rfl⟩;refine Mix.alone (i:=24) (by kernel_rfl) rfl (by rfl) (fun K hK=>?_)
       go_step
       refine hK _ _ ?_;clear hK K;refine Mix.done (by kernel_rfl) ?_;have HX3:=zh (((HX2.o.drewN (1+nq)).set k (.int .i64 (wrap64 (16+xv)))));rw[List.set_set] at HX3;go_wp2_with fail;go_meet;exact⟨by rw[H20.o (by have:=HK.o;omega)],by rw[(HRN.o (by have:=HK.o;omega) (by have:=HK.o;omega)).1];rfl,by rw[(HRN.o (by have:=HK.o;omega) (by have:=HK.o;omega)).2];rfl,by rw[HB.o];exact HX3⟩
     by_cases hk:f.k=19
     ·as_aux_lemma=>
       have HK:=zh hk;have q14:(f.k == 14)=false:=by simp;omega
       have q12:(f.k == 12)=false:=by simp;omega
       have q13:(f.k == 13)=false:=by simp;omega
       have q15:(f.k == 15)=false:=by simp;omega
       have q16:(f.k == 16)=false:=by simp;omega
       have q17:(f.k == 17)=false:=by simp;omega
       have q18:(f.k == 18)=false:=by simp;omega
       have q19:(f.k == 19)=true:=by simp;omega
       obtain⟨v,hv,h0,hvw⟩:=HFIT.o.items19 HWD.o hk HR.o k hlt HNB.o;obtain⟨hb2',hd1,m,hm,h1m,h8m,hs1⟩:=HFIT.o.dict hk;have hbl:1<d.bufs.length:=by omega
       have hdl:0<d.dict.length:=by omega
       rw[zb7 hbl] at hv;have hsz:(o+k+1)*m<=d.bufs[1].size:=Nat.le_trans (Nat.mul_le_mul_right m (show o+k+1<=o+n by omega)) (hs1 hbl);have HDC:=zh (fun(w':World) (hw':Below w.heap.size w w')=>by
        have hd':=HD.o.below hw';rw[HNN.o,HOO.o] at hd';have hcall:=zhf (HF.o.below hw') hd' (o+k) hdl hbl m hm h1m hsz (HIB.o _ (List.getElem_mem hdl));rw[hv] at hcall;exact hcall)
       obtain⟨qb,qo,iq,ic,eq,-,hqc,hqi⟩:=zhk HWS.o 0 h0;subst eq;rw[Nat.add_zero] at hqc;obtain⟨⟨-,hi1,hi2⟩,hi3⟩:=zee hqi;obtain⟨ib,io,eiq,-,hic⟩:=hi3 v hvw;subst eiq;unfold maxLen at hi2;have HB:Hid (base=ws[0][v]):=zh (by rw[HBASE.o];unfold zbC;rw[if_neg (by omega),if_neg (by omega),if_neg (by omega),if_neg (by omega),if_pos hk,zb7 hbl,hv,Int.toNat_natCast,zgd h0 hvw]);obtain⟨xv,hic',hxv⟩:∃xv,w.cell? ⟨ib,io+v,none⟩=some (.int .i64 xv)/\base=xv:=⟨_,hic,HB.o⟩;obtain⟨tl,hqc',hrl',hi1'⟩:∃tl,w.cell? ⟨qb,qo,none⟩=some (.slice (some ⟨ib,io,none⟩) tl ic)/\v<tl/\tl<=ic:=⟨_,hqc,hvw,hi1⟩;have HB2:=zh hxv;have h0z:(0:Int)<(ws.length:Int):=by omega
       have hrlz:(v:Int)<(tl:Int):=by omega
       have HAZ0:Hid (A=0/\Z=0):=zh (by rw[HA.o,HZ.o];unfold zbd;rw[if_neg (by omega),if_neg (by omega)];exact⟨rfl,rfl⟩);have H20:Hid (R=run):=zh (by rw[HRD.o];unfold zce;rw[if_neg (by omega)]);have HQC:=zh (zaa HX2.o.1 hqc');have HIC:=zh (zaa HX2.o.1 hic');clear hk hv hvw hb2' hd1 hm h1m h8m hs1 hsz hqc hqi hi1 hi3 hic hxv hic' hqc' HB hout hz8 hl8;go_wp2_with fail;refine Mix.region 13 (by kernel_rfl) rfl ?_;have HXD:=zh (HX2.o.drewN 1);obtain⟨wd,hwd⟩:=nm (W2.drew);have HXD:=zh (show WtAt w wd (f7 f fp fc) [.int .i64 n,.int .i64 o,.int .i64 d.nul,.slice bp d.bufs.length bc,.slice kp d.kids.length kc,.slice dp d.dict.length dc] [.int .i64 f.k,.int .i64 f.wd,.int .i64 f.id,.int .i64 f.ix,.slice fp f.kids.length fc] ((zc9 l n).set k (.int .i64 16)) from by rw[hwd];exact HX2.o.drewN 1);have HQC:=zh (show wd.cell? ⟨qb,qo,none⟩=some (.slice (some ⟨ib,io,none⟩) tl ic) by rw[hwd];exact HQC.o);have HIC:=zh (show wd.cell? ⟨ib,io+v,none⟩=some (.int .i64 xv) by rw[hwd];exact HIC.o);rw[<-hwd];clear hwd;have HCALL:Hid (∀w',Below wd.heap.size wd w'->Calls Tryz.prog 89 #[.agg #[.string f.nm,.bool f.nl,.int .i64 f.k,.int .i64 f.wd,.int .i64 f.id,.int .i64 f.ix,.slice fp f.kids.length fc],.agg #[.int .i64 n,.int .i64 o,.int .i64 d.nul,.slice bp d.bufs.length bc,.slice kp d.kids.length kc,.slice dp d.dict.length dc],.int .i64 ((o:Int)+(k:Int))] w' (fun e w''=>e=.returned (.int .i64 (v:Int))/\Below wd.heap.size wd w'')):=zh (fun w' hw'=>(HDC.o w' (HXD.o.below hw').1).mono fun e w'' h=>⟨h.1,hw'.trans (h.2.mono hw'.size)⟩);refine Mix.phase3 (C:=fun w'=>Below wd.heap.size wd w') (ft:=1) (ph:=[0,1,2,3,4,5,6,7,8,9,10,11]) (by repeat constructor) (by kernel_rfl) (Below.refl _ _) ?_
       go_big_quiet_step (exact fun _=>rfl)
       go_big_quiet_step (exact fun _=>rfl)
       go_big_quiet_step (exact fun _=>rfl)
       go_big_quiet_step (exact fun _=>rfl)
       go_big_quiet_want
       refine⟨.slice (some ⟨ib,io,none⟩) tl ic,fun w' hw'=>?_,?_⟩
       ·have hu:=zaa hw' HQC.o;unfold Oper.quietAt;go_simp
       go_simp
       go_big_quiet_on
       go_big_quiet_want
       refine⟨.agg #[.string f.nm,.bool f.nl,.int .i64 f.k,.int .i64 f.wd,.int .i64 f.id,.int .i64 f.ix,.slice fp f.kids.length fc],fun w' hw'=>?_,?_⟩
       ·have hf:=(HXD.o.below hw').2.1;obtain⟨p0,p1,p2,p3,p4,p5,p6⟩:=Fld.rr7 hf.row;unfold Oper.quietAt;go_simp
       go_simp
       go_big_quiet_on
       go_big_quiet_want
       refine⟨.agg #[.int .i64 n,.int .i64 o,.int .i64 d.nul,.slice bp d.bufs.length bc,.slice kp d.kids.length kc,.slice dp d.dict.length dc],fun w' hw'=>?_,?_⟩
       ·have hf:=(HXD.o.below hw').2.2.1;obtain⟨rr0,rr1,rr2,rr3,rr4,rr5⟩:=Fld.rr6 hf.row;unfold Oper.quietAt;go_simp
       go_simp
       go_big_quiet_on
       go_big_quiet_step (exact fun _=>rfl)
       go_big_quiet_want
       refine⟨.int .i64 (v:Int),fun w' hw'=>?_,?_⟩
       ·skip
        unfold Oper.quietAt;go_simp;exact HCALL.o w' hw'
       go_simp
       go_big_quiet_on
       go_big_quiet_step (exact fun _=>rfl)
       go_big_quiet_want
       refine⟨.int .i64 xv,fun w' hw'=>?_,?_⟩
       ·have hu:=zaa hw' HIC.o;unfold Oper.quietAt;go_simp
       go_simp
       go_big_quiet_on
       go_big_quiet_step (exact fun _=>rfl)
       refine wpQuiet_nil ?_;intro W3 hb3;have HX3:=zh (HXD.o.below hb3);clear hb3 HCALL HXD HQC HIC;have hz8:=HX3.o.2.2.2.2.frozen k;have hl8:=HX3.o.2.2.2.2.lt;have hout:=HX3.o.2.2.2.2.row k _ (List.getElem?_set_self (by rw[HC.o];omega));refine Mix.alone (i:=12) (by kernel_rfl) rfl (by rfl) (fun K hK=>?_)
       go_step
       refine hK _ _ ?_;clear hK K;have HX4:=zh (HX3.o.set k (.int .i64 xv));rw[List.set_set] at HX4;refine Mix.done (by kernel_rfl) ?_;go_wp2_with fail;go_meet;exact⟨by rw[H20.o],by rw[HAZ0.o.1];rfl,by rw[HAZ0.o.2];rfl,by rw[HB2.o];exact HX4⟩
     by_cases hk:f.k=20
     ·as_aux_lemma=>
       have HK:=zh hk;have q14:(f.k == 14)=false:=by simp;omega
       have q12:(f.k == 12)=false:=by simp;omega
       have q13:(f.k == 13)=false:=by simp;omega
       have q15:(f.k == 15)=false:=by simp;omega
       have q16:(f.k == 16)=false:=by simp;omega
       have q17:(f.k == 17)=false:=by simp;omega
       have q18:(f.k == 18)=false:=by simp;omega
       have q19:(f.k == 19)=false:=by simp;omega
       have q20:(f.k == 20)=true:=by simp;omega
       obtain⟨m,Rn⟩:=HFIT.o.runs hk (by omega) HE.o;have hrun:=Rn.le ws hk k (by omega);rw[<-HRUN.o] at hrun;obtain⟨o',he1,he2,he3,he4,heb,hes⟩:=Rn.ends;have hkl:1<d.kids.length:=by rw[Rn.kids];decide
       have hk00:zbM d=d.kids[0]:=by unfold zbM;rw[List.getElem?_eq_getElem (show 0<d.kids.length by omega)];rfl
       have hvals:=Rn.vals hkl;obtain⟨e0,he0⟩:=nm (d.kids[0]);have hR:R=adv (buf e0 1) o' (o+k) (m+1-run) run:=by
        rw[HRD.o];unfold zce;rw[if_pos hk,hk00,<-he0];rw[hk00,<-he0] at he1 he2;rw[he1,he2,Int.toNat_natCast,Int.toNat_natCast]
       rw[hk00] at he1 he2 he4 heb hes;have hw1:1<ws.length:=by rw[HWD.o.n,HFIT.o.parts (by omega)];exact hkl
       have hwl:=HWD.o.eq 1 hw1 (by rw[HFIT.o.parts (by omega)];exact hkl);simp only[HFIT.o.parts (show f.k≠19 by omega)] at hwl;rw[hvals] at hwl;have hwl':ws[1].length=m+1:=by omega
       obtain⟨kb,ko,abp,abc,akp,akc,adp,adc,ekp,-,k0,k1,k2,k3,k4,k5,hda⟩:=zci HKI.o 0 (by omega);subst ekp;rw[Nat.zero_mul,Nat.add_zero] at k0 k1 k2 k3 k4 k5;rw[<-he0] at he1 he2 he4 heb hes k0 k1 k2 k3 k4 k5 hda;have heb':1<e0.bufs.length:=heb;have hes':4*(o'+m+1)<=(buf e0 1).size:=hes;obtain⟨bp',bc',kp',kc',dp',dc',ecs,habu,-,-⟩:=DAt.shape hda;simp only[List.cons.injEq,Value.slice.injEq,and_true,true_and] at ecs;obtain⟨⟨rfl,rfl⟩,-,-⟩:=ecs;obtain⟨ab,ao,yq,yc,eap,-,hbc,hby⟩:=zbI habu 1 heb';subst eap;have hbs:e0.bufs[1]=buf e0 1:=(zb7 heb').symm;rw[hbs] at hbc hby;have HB:Hid (base=at2 ws 1 R):=zh (by rw[HBASE.o];unfold zbC;rw[if_neg (by omega),if_neg (by omega),if_neg (by omega),if_neg (by omega),if_neg (by omega),if_pos hk]);have kk0:=zaa HX2.o.1 k0;have kk1:=zaa HX2.o.1 k1;have kk2:=zaa HX2.o.1 k2;have kk3:=zaa HX2.o.1 k3;have kk4:=zaa HX2.o.1 k4;have kk5:=zaa HX2.o.1 k5;have rr4:=HX2.o.2.2.1.row 4 _ rfl;have HE1:=zh he1;have HAD0:=zh hR.symm;have HBC:=zh hbc;have HBY:=zh hby;have HLAST:=zh he4;have HSZ:=zh hes';have HWL:=zh hwl';have HW1:=zh hw1;have hkz:0<d.kids.length:=by omega
       clear hk Rn he1 he2 he4 heb hes hes' hk00 hvals he0 hR hwl hwl' k0 k1 k2 k3 k4 k5 hda habu hbc hby hbs hkl;go_wp2_with fail;obtain⟨wk,hwk⟩:=nm (W2.alloc (.cells #[.int .i64 e0.len,.int .i64 e0.off,.int .i64 e0.nul,.slice (some ⟨ab,ao,none⟩) e0.bufs.length abc,.slice akp e0.kids.length akc,.slice adp e0.dict.length adc] 46));have BK:=zh (show BoxN wk W2.heap.size 46 [.int .i64 e0.len,.int .i64 e0.off,.int .i64 e0.nul,.slice (some ⟨ab,ao,none⟩) e0.bufs.length abc,.slice akp e0.kids.length akc,.slice adp e0.dict.length adc] by rw[hwk];exact BoxN.new W2 46 [.int .i64 e0.len,.int .i64 e0.off,.int .i64 e0.nul,.slice (some ⟨ab,ao,none⟩) e0.bufs.length abc,.slice akp e0.kids.length akc,.slice adp e0.dict.length adc]);have HXK:=zh (show WtAt w wk (f7 f fp fc) [.int .i64 n,.int .i64 o,.int .i64 d.nul,.slice bp d.bufs.length bc,.slice (some ⟨kb,ko,none⟩) d.kids.length kc,.slice dp d.dict.length dc] [.int .i64 f.k,.int .i64 f.wd,.int .i64 f.id,.int .i64 f.ix,.slice fp f.kids.length fc] ((zc9 l n).set k (.int .i64 16)) by rw[hwk];exact HX2.o.below ((Below.refl _ W2).alloc (Nat.le_refl _) _));rw[<-hwk];clear hwk kk0 kk1 kk2 kk3 kk4 kk5 rr4 hout hz8 hl8
       go_loopw [9] (fun t9 wx=>∃ru:Nat,t9=.int .i64 ru/\ru<=m/\Hid (adv (buf e0 1) o' (o+k) (m+1-ru) ru=R)/\Hid (∃q,wx=wk.drewN q)) (fun t9 _=>m+1-(intOf t9).toNat)
       case atStart=>exact⟨run,rfl,hrun,HAD0,zh ⟨0,rfl⟩⟩
       case round=>
        obtain⟨ru,rfl,hru,HAD,HQ⟩:=hrel;obtain⟨qn,hqn⟩:=HQ.o;have HQN:=zh hqn;have BR:=zh (show BoxN wr W2.heap.size 46 [.int .i64 e0.len,.int .i64 e0.off,.int .i64 e0.nul,.slice (some ⟨ab,ao,none⟩) e0.bufs.length abc,.slice akp e0.kids.length akc,.slice adp e0.dict.length adc] by rw[hqn];exact BK.o);have HBW2:=zh (show Below w.heap.size w wr by rw[hqn];exact zab HXK.o.1 qn);clear hqn;obtain⟨v,hv⟩:=nm (s32 (buf e0 1) (o'+ru));have hvb:=zcx (buf e0 1) (o'+ru);rw[<-hv] at hvb;obtain⟨bz,hbz⟩:=nm ((buf e0 1).size);have N1:Hid (∀t,Calls Tryz.prog 87 #[.slice yq bz yc,.int .i64 ((o':Int)+(ru:Int))] (wr.drewN t) (fun e w'=>e=.returned (.int .i64 v)/\∃z,w'=(wr.drewN t).drewN z)):=zh (fun t=>by
         rw[hv,hbz];exact za2 (HBY.o.below (zab HBW2.o t)) (o'+ru) (by have:=HSZ.o;omega))
        have HV:=zh hv;have b1:wr.cell? ⟨W2.heap.size,1,none⟩=some (.int .i64 (o':Int)):=by rw[<-HE1.o];exact BR.o.row 1 _ rfl
        have b3:=BR.o.row 3 _ rfl;have t1:wr.cell? ⟨ab,ao+1,none⟩=some (.slice yq bz yc):=by rw[hbz];exact zaa HBW2.o HBC.o
        clear hv hbz;have hok:(o':Int)+(ru:Int)<=4096:=by omega
        by_cases hle:v<=(o:Int)+(k:Int)
        ·have hleb:decide (v<=(o:Int)+(k:Int))=true:=decide_eq_true hle;have hvk:v<=((o+k:Nat):Int):=by omega
         have hvn:v<((o+n:Nat):Int):=by omega
         have hne:ru≠m:=fun e=>by
          have h2:=HLAST.o;rw[<-e,<-HV.o] at h2;exact absurd h2 (Int.not_le.2 hvn)
         have hrm:ru<m:=by omega
         have hrm1:ru<m+1:=by omega
         have HRM:Hid (ru<m/\adv (buf e0 1) o' (o+k) (m+1-(ru+1)) (ru+1)=R):=zh ⟨hrm,by
          rw[<-zpz (by rw[<-HV.o];exact hvk) hrm1];exact HAD.o⟩
         clear hvk hvn hne hrm1;clear hle;go_wp2_with fail
         go_quiet (with_reducible exact Calls.quiet_of (N1.o _))
         go_wp2_with fail;go_roundw
         case rel=>exact⟨ru+1,by go_num,by have:=HRM.o;omega,zh HRM.o.2,zh ⟨qn+nq,by rw[HQN.o,World.drewN_drewN]⟩⟩
         case measure=>simp only[intOf];omega
        ·have hleb:decide (v<=(o:Int)+(k:Int))=false:=decide_eq_false hle;have hRr:R=ru:=by
          rw[<-HAD.o];exact zpA (by rw[<-HV.o];exact fun h=>hle (by rw[Int.natCast_add] at h;exact h)) (by omega)
         have hrl:ru<ws[1].length:=by have:=HWL.o;omega
         obtain⟨qb,qo,iq,ic,eq,-,hqc,hqi⟩:=zhk HWS.o 1 hw1;subst eq;obtain⟨⟨-,hi1,hi2⟩,hi3⟩:=zee hqi;obtain⟨ib,io,eiq,-,hic⟩:=hi3 ru hrl;subst eiq;unfold maxLen at hi2;have HB2:Hid (base=ws[1][ru]):=zh (by rw[HB.o,hRr];exact zgd hw1 hrl);obtain⟨xv,hic',hxv⟩:∃xv,w.cell? ⟨ib,io+ru,none⟩=some (.int .i64 xv)/\base=xv:=⟨_,hic,HB2.o⟩;clear HB2;have HB2:=zh hxv;have HIC:=zh hic';obtain⟨tl,hqc',hrl',hi1'⟩:∃tl,w.cell? ⟨qb,qo+1,none⟩=some (.slice (some ⟨ib,io,none⟩) tl ic)/\ru<tl/\tl<=ic:=⟨_,hqc,hrl,hi1⟩;have HQC:=zh hqc';have HRR:=zh hRr;have hrlz:(ru:Int)<(tl:Int):=by omega
         have hw1z:(1:Int)<(ws.length:Int):=by have:=HW1.o;omega
         clear hle hRr hxv hqc hqc' hqi hi3 hic hic' hrl hi1;go_wp2_with fail
         go_quiet (with_reducible exact Calls.quiet_of (N1.o _))
         have HXR:=zh (show WtAt w (wr.drewN nq) (f7 f fp fc) [.int .i64 n,.int .i64 o,.int .i64 d.nul,.slice bp d.bufs.length bc,.slice (some ⟨kb,ko,none⟩) d.kids.length kc,.slice dp d.dict.length dc] [.int .i64 f.k,.int .i64 f.wd,.int .i64 f.id,.int .i64 f.ix,.slice fp f.kids.length fc] ((zc9 l n).set k (.int .i64 16)) by rw[HQN.o];exact(HXK.o.drewN qn).drewN nq);obtain⟨wz,hwz⟩:=nm (wr.drewN nq);rw[<-hwz] at HXR ⊢;clear hwz;have t3:wz.cell? ⟨qb,qo+1,none⟩=some (.slice (some ⟨ib,io,none⟩) tl ic):=zaa HXR.o.1 HQC.o;have t4:wz.cell? ⟨ib,io+ru,none⟩=some (.int .i64 xv):=zaa HXR.o.1 HIC.o;have hz8:=HXR.o.2.2.2.2.frozen k;have hl8:=HXR.o.2.2.2.2.lt;have hout:=HXR.o.2.2.2.2.row k _ (List.getElem?_set_self (by rw[HC.o];omega));have HX3:=zh (HXR.o.set k (.int .i64 xv));rw[List.set_set] at HX3;have HAZ0:Hid (A=0/\Z=0):=zh (by
          rw[HA.o,HZ.o];unfold zbd;rw[if_neg (by have:=HK.o;omega),if_neg (by have:=HK.o;omega)];exact⟨rfl,rfl⟩)
         go_wp2_with fail;go_meet;exact⟨by rw[HRR.o],by rw[HAZ0.o.1];rfl,by rw[HAZ0.o.2];rfl,by rw[HB2.o];exact HX3⟩
     have hk:f.k≠14/\f.k≠12/\f.k≠13/\f.k≠15/\f.k≠16/\f.k≠17/\f.k≠18/\f.k≠19/\f.k≠20:=by omega
     as_aux_lemma=>
      have H20:Hid (f.k≠20->R=run):=zh (fun h=>by rw[HRD.o];unfold zce;rw[if_neg h]);have HRN:Hid (f.k≠15->f.k≠16->A=0/\Z=0):=zh (fun h1 h2=>by rw[HA.o,HZ.o];unfold zbd;rw[if_neg h1,if_neg h2];exact⟨rfl,rfl⟩);have HK:=zh hk;have q14:(f.k == 14)=false:=by simp;omega
      have q12:(f.k == 12)=false:=by simp;omega
      have q13:(f.k == 13)=false:=by simp;omega
      have q15:(f.k == 15)=false:=by simp;omega
      have q16:(f.k == 16)=false:=by simp;omega
      have q17:(f.k == 17)=false:=by simp;omega
      have q18:(f.k == 18)=false:=by simp;omega
      have q19:(f.k == 19)=false:=by simp;omega
      have q20:(f.k == 20)=false:=by simp;omega
      have HB:Hid (base=16):=zh (by rw[HBASE.o];unfold zbC;rw[if_neg (by omega),if_neg (by omega),if_neg (by omega),if_neg (by omega),if_neg (by omega),if_neg (by omega)]);clear hk;go_wp2_with fail;go_meet;exact⟨by rw[H20.o (by have:=HK.o;omega)],by rw[(HRN.o (by have:=HK.o;omega) (by have:=HK.o;omega)).1];rfl,by rw[(HRN.o (by have:=HK.o;omega) (by have:=HK.o;omega)).2];rfl,by rw[HB.o];exact HX2⟩
    case rest=>
     obtain⟨rfl,rfl,rfl,HY⟩:=hcut;obtain⟨hAZ,hAw,hAb⟩:=HFIT.o.rng HWD.o HR.o k hlt;rw[<-HA.o,<-HZ.o] at hAZ hAw;rw[<-HA.o] at hAb;have HST:Hid (zca f d ws o (k+1)=(l ++ [za9 base (zco ((ws[0]?).getD []) A Z)],R)):=zh (by
      unfold zca zcu;rw[<-HL.o,<-HRUN.o,if_neg (by rw[HNB.o];decide),<-HRD.o,<-HBASE.o,<-HA.o,<-HZ.o])
     have HAW:=zh hAw;clear hAw;by_cases hlt2:A<Z
     ·as_aux_lemma=>
       obtain⟨h0,hZw⟩:=HAW.o hlt2;obtain⟨qb,qo,iq,ic,eq,-,hqc,hqi⟩:=zhk HWS.o 0 h0;subst eq;rw[Nat.add_zero] at hqc;obtain⟨⟨-,hi1,hi2⟩,hi3⟩:=zee hqi;obtain⟨ib,io,eiq,-,-⟩:=hi3 A (by omega);subst eiq;unfold maxLen at hi2;have hw00:(ws[0]?).getD []=ws[0]:=by rw[List.getElem?_eq_getElem h0];rfl
       have HI:Hid (∀j,j<Z-A->∃x,w.cell? ⟨ib,io+A+j,none⟩=some (.int .i64 x)/\za9 base ((zco ((ws[0]?).getD []) A Z).take (j+1))=wrap64 (za9 base ((zco ((ws[0]?).getD []) A Z).take j)+x)):=zh (fun j hj=>by
        rw[hw00];obtain⟨_,_,e,-,c⟩:=hi3 (A+j) (by omega);cases e;have hcl:j<(zco ws[0] A Z).length:=by rw[zfY hZw];exact hj
        refine⟨ws[0][A+j],by rw[Nat.add_assoc];exact c,?_⟩;rw[zgx base _ j hcl,zpC hZw hcl (by omega)])
       have HFU:Hid ((zco ((ws[0]?).getD []) A Z).take (Z-A)=zco ((ws[0]?).getD []) A Z):=zh (by rw[hw00];exact List.take_of_length_le (by rw[zfY hZw];exact Nat.le_refl _));have HF0:Hid (za9 base ((zco ((ws[0]?).getD []) A Z).take 0)=base):=zh rfl;obtain⟨tl,hqc',hZt,htc⟩:∃tl,w.cell? ⟨qb,qo,none⟩=some (.slice (some ⟨ib,io,none⟩) tl ic)/\Z<=tl/\tl<=ic:=⟨_,hqc,hZw,hi1⟩;have t3:wc.cell? ⟨qb,qo,none⟩=some (.slice (some ⟨ib,io,none⟩) tl ic):=zaa HY.o.1 hqc';have HCALL:=zh (zkW (k:=ws.length) (kc:=qc) h0 t3 A Z hlt2 (by omega) (by omega));clear hw00 hqc hqi hi3 hqc' t3 h0 hZw hi1;go_wp2_with fail;refine HCALL.o.mono ?_;rintro e W3 ⟨rfl,rfl⟩;go_wp2_with fail
       go_loopw [193] (fun i wx=>∃j:Nat,j<=Z-A/\i=.int .i64 j/\Hid (WtAt w wx (f7 f fp fc) [.int .i64 n,.int .i64 o,.int .i64 d.nul,.slice bp d.bufs.length bc,.slice kp d.kids.length kc,.slice dp d.dict.length dc] [.int .i64 f.k,.int .i64 f.wd,.int .i64 f.id,.int .i64 f.ix,.slice fp f.kids.length fc] ((zc9 l n).set k (.int .i64 (za9 base ((zco ((ws[0]?).getD []) A Z).take j)))))) (fun i _=>Z-A-(intOf i).toNat)
       case atStart=>exact⟨0,Nat.zero_le _,rfl,by rw[HF0.o];exact HY⟩
       case round=>
        obtain⟨j,hj,rfl,HJ⟩:=hrel;by_cases hjl:j<Z-A
        ·obtain⟨x,hx,hfx⟩:=HI.o j hjl;obtain⟨sj,hsj⟩:=nm (za9 base ((zco ((ws[0]?).getD []) A Z).take j));rw[<-hsj] at hfx HJ;have HFX:=zh hfx;have t4:wr.cell? ⟨ib,io+A+j,none⟩=some (.int .i64 x):=zaa HJ.o.1 hx;have hout:=HJ.o.2.2.2.2.row k _ (List.getElem?_set_self (by rw[HC.o];omega));have hz8:=HJ.o.2.2.2.2.frozen k;have hl8:=HJ.o.2.2.2.2.lt;have HX3:=zh (HJ.o.set k (.int .i64 (wrap64 (sj+x))));rw[List.set_set] at HX3;clear hsj hfx hx;go_wp2_with fail;go_roundw
         case rel=>exact⟨j+1,by omega,by go_num,by rw[HFX.o];exact HX3⟩
         case measure=>simp only[intOf];omega
        ·have hje:j=Z-A:=by omega
         have HYE:=HJ;rw[hje,HFU.o] at HYE;clear hje;go_wp2_with fail;exact⟨⟨k+1,by omega,by go_num,by rw[HST.o],zh (by
          rw[HST.o];have hx:=HYE.o;rw[<-HLEN.o,ziw (by have:=HLEN.o;omega)] at hx;exact hx)⟩,by simp only[intOf];omega⟩
     ·as_aux_lemma=>
       obtain rfl:A=Z:=by omega
       have HCALL:=zh (zmb (w:=wc) (.slice q ws.length qc) A (by omega));have HYE:=HY;have HFZ:Hid (za9 base (zco ((ws[0]?).getD []) A A)=base):=zh (by unfold zco;rw[Nat.sub_self,List.take_zero];rfl);rw[<-HFZ.o] at HYE;go_wp2_with fail;refine HCALL.o.mono ?_;rintro e W3 ⟨rfl,rfl⟩;go_wp2_with fail
       go_loopw [193] (fun i wx'=>i=.int .i64 0/\Hid (wx'=W3)) (fun _ _=>0)
       case atStart=>exact⟨rfl,zh rfl⟩
       case round=>
        obtain⟨rfl,HW⟩:=hrel;have hww:=HW.o;subst hww;go_wp2_with fail;exact⟨⟨k+1,by omega,by go_num,by rw[HST.o],zh (by
         rw[HST.o];have hx:=HYE.o;rw[<-HLEN.o,ziw (by have:=HLEN.o;omega)] at hx;exact hx)⟩,by simp only[intOf];omega⟩
  ·
   obtain rfl:k=n:=by omega
   have X:=HX.o;have HLEN:=zh hlen;clear hlen;go_wp2_with fail;go_ret;rw[zom HLEN.o] at X;have hb:=zmf (S:=fun b=>w.heap.size<=b) X.2.2.2.2 (by show w.heap.size<=w.heap.size+1+1+1;omega) (by rw[HLEN.o];unfold maxLen;omega);rw[HLEN.o] at hb;refine⟨_,_,rfl,?_,X.1⟩;have hwt:zbo f d ws=(zca f d ws o k).1:=by unfold zbo;rw[HNN.o,HOO.o,Int.toNat_natCast,Int.toNat_natCast]
   rw[hwt];exact hb
end Go.Fld
namespace Go.Fld
open Go Go.ChangeShapes Go.WideShapes Go.ChangeAt Go.RowKit Go.Deep Go.Proofs
section
variable {H:Type} {enc:TypeId × Value->H} {w:World}
theorem zgy {α:Type}(f:α->List M)(Q:α->Prop){t e:TypeId}{sz:Nat}(hu:Tryz.prog.underlying t=some (.slice e))(hC:Tryz.prog.cellsOf e=sz)(hsz:0<sz){n:Nat}{v:Value}{x:DataW H × List MemPlace}(h:DataW.trod enc Tryz.prog w 0 (fun _=>true) true n t [v]=some x)
  (key:∀k,k<n->∀(cs:List Value) (y:DataW H × List MemPlace),cs.length=sz->DataW.trod enc Tryz.prog w 0 (fun _=>true) true k e cs=some y->∃a,Q a/\M.AtL (fun _=>True) w (f a) cs) :
  ∃l:List α,M.At (fun _=>True) w (.many sz (l.map f)) v/\∀a ∈ l,Q a:=by
 rcases DataW.trod_slice hu h with⟨hcs,_⟩|⟨a,len,cap,elems,rest,m,rfl,hcs,rfl,hb,hl,hm,hlen,hel,_,_⟩
 ·simp at hcs;subst hcs;exact⟨[],M.At.nil _ _ _,fun _ h=>by cases h⟩
 ·simp at hcs;subst hcs;rw[hC] at hel;have hap:0<len->∃b o,a=⟨b,o,none⟩:=by
   intro h0;have h1:=hel 0 h0;rw[List.getElem?_eq_getElem (by omega)] at h1;obtain⟨cs,h2,h3⟩:=Option.bind_eq_some_iff.1 h1;obtain⟨hcl,hcc⟩:=Open.cells?_some h2;have h4:=hcc 0 (by omega);rw[show(a.add (0*sz)).add 0=a from by simp[Addr.add],List.getElem?_eq_getElem (by omega)] at h4;exact Open.spot_of_cell h4
  have key2:∀i,i<len->∃y:α,Q y/\∃b o cs,a=⟨b,o,none⟩/\cs.length=sz/\(∀(j:Nat) (u:Value),cs[j]?=some u->w.cell? ⟨b,o+i*sz+j,none⟩=some u)/\M.AtL (fun _=>True) w (f y) cs:=by
   intro i hi;have h1:=hel i hi;rw[List.getElem?_eq_getElem (by omega)] at h1;obtain⟨cs,h2,h3⟩:=Option.bind_eq_some_iff.1 h1;obtain⟨hcl,hcc⟩:=Open.cells?_some h2;obtain⟨y,hq,hy⟩:=key _ (by omega) cs _ hcl h3;obtain⟨b',o',rfl⟩:=hap (by omega);refine⟨y,hq,b',o',cs,rfl,hcl,fun j u hj=>?_,hy⟩;have hj7:=(List.getElem?_eq_some_iff.1 hj).1;have:=hcc j (by omega);rw[Open.add_plain,Open.add_plain] at this;rw[this];exact hj
  obtain⟨ys,hyl,hy⟩:=Open.list_of key2;subst hyl;refine⟨ys,?_,fun y hm=>?_⟩
  ·have:=M.At.of (S:=fun _=>True) (w:=w) (sz:=sz) (rows:=ys.map f) (p:=some a) (cap:=cap) (by rw[List.length_map];omega) (M.RowsAt.mk hsz fun i hi=>?_)
   ·rwa [List.length_map] at this
   ·obtain⟨-,b,o,cs,rfl,h1,h2,h3⟩:=hy i (by simpa using hi);refine⟨b,o,cs,rfl,trivial,h1,fun j u hj=>?_,by rw[List.getElem_map];exact h3⟩;rw[Nat.zero_add];exact h2 j u hj
  ·obtain⟨i,hi,rfl⟩:=List.getElem_of_mem hm;exact(hy i hi).1
theorem znh {n:Nat}{v:Value}{x:DataW H × List MemPlace}(h:DataW.trod enc Tryz.prog w 0 (fun _=>true) true n 58 [v]=some x):∃s:ByteArray,M.At (fun _=>True) w (zby s) v:=by
 have he:Tryz.prog.underlying 58=some (.slice 5):=by kernel_rfl
 have hq:Tryz.prog.underlying 5=some (.int .u8):=by kernel_rfl
 have hc:Tryz.prog.cellsOf 5=1:=by kernel_rfl
 obtain⟨l,hl,-⟩:=zgy (fun(x:UInt8)=>[.one (.int .u8 (x.toNat:Int))]) (fun _=>True) he hc (by decide) h (fun k hk cs y hcs hy=>by
  obtain⟨c0,rfl⟩:∃c0,cs=[c0]:=by
   match cs,hcs with
   | [a],_=>exact⟨a,rfl⟩
  obtain⟨n0,e0,_,w0⟩:=DataW.trod_int (x:=y) hq hy;simp at e0;subst e0;have hb:0<=n0/\n0<=255:=by
   simp[Lit.wf] at w0;have e1:IntKind.u8.min=0:=rfl;have e2:IntKind.u8.max=255:=rfl;omega
  refine⟨UInt8.ofNat n0.toNat,trivial,?_⟩;have e3:(((UInt8.ofNat n0.toNat).toNat:Nat):Int)=n0:=by
   rw[UInt8.toNat_ofNat'];omega
  rw[e3];exact M.AtL.cons M.At.one M.AtL.nil)
 exact⟨⟨l.toArray⟩,by unfold zby;simpa using hl⟩
theorem zj1 {n:Nat}{v:Value}{x:DataW H × List MemPlace}(h:DataW.trod enc Tryz.prog w 0 (fun _=>true) true n 44 [v]=some x):∃l:List ByteArray,M.At (fun _=>True) w (zeu l) v:=by
 obtain⟨l,hl,-⟩:=zgy (fun(s:ByteArray)=>[zby s]) (fun _=>True) (show Tryz.prog.underlying 44=some (.slice 58) by kernel_rfl) (show Tryz.prog.cellsOf 58=1 by kernel_rfl) (by decide) h (fun k hk cs y hcs hy=>by
  obtain⟨c0,rfl⟩:∃c0,cs=[c0]:=by
   match cs,hcs with
   | [a],_=>exact⟨a,rfl⟩
  obtain⟨s,hs⟩:=znh hy;exact⟨s,trivial,M.AtL.cons hs M.AtL.nil⟩)
 exact⟨l,hl⟩
theorem zlb:∀(n:Nat) (v:Value) (x:DataW H × List MemPlace),DataW.trod enc Tryz.prog w 0 (fun _=>true) true n 29 [v]=some x->∃l:List Dt,M.At (fun _=>True) w (.many 6 (l.map dtR)) v/\∀d ∈ l,DtOk d:=by
 intro n
 induction n using Nat.strongRecOn with
 | _ n ih=>
 intro v x h;have hC3:Tryz.prog.cellsOf 3=1:=by kernel_rfl
 have hC73:Tryz.prog.cellsOf 44=1:=by kernel_rfl
 have hC27:Tryz.prog.cellsOf 29=1:=by kernel_rfl
 have hu3:Tryz.prog.underlying 3=some (.int .i64):=by kernel_rfl
 have hu75:=Tryz.underlying46;refine zgy dtR DtOk (show Tryz.prog.underlying 29=some (.slice 46) by kernel_rfl) (show Tryz.prog.cellsOf 46=6 by kernel_rfl) (by decide) h (fun k hk cs y hcs hy=>?_);obtain⟨c0,c1,c2,c3,c4,c5,rfl⟩:∃c0 c1 c2 c3 c4 c5,cs=[c0,c1,c2,c3,c4,c5]:=by
  match cs,hcs with
  | [a,b,c,d,e,f],_=>exact⟨a,b,c,d,e,f,rfl⟩
 obtain⟨xs,k',rfl,_,_,hxl,hf⟩:=DataW.trod_struct (x:=y) hu75 hy;obtain⟨y0,y1,y2,y3,y4,y5,rfl⟩:∃y0 y1 y2 y3 y4 y5,xs=[y0,y1,y2,y3,y4,y5]:=by
  match xs,hxl with
  | [a,b,c,d,e,f],_=>exact⟨a,b,c,d,e,f,rfl⟩
 have f0:DataW.trod enc Tryz.prog w 0 (fun _=>true) true k' 3 (([c0,c1,c2,c3,c4,c5].drop 0).take (Tryz.prog.cellsOf 3))=some y0:=hf 0 _ rfl;rw[hC3] at f0;have f1:DataW.trod enc Tryz.prog w 0 (fun _=>true) true k' 3 (([c0,c1,c2,c3,c4,c5].drop 1).take (Tryz.prog.cellsOf 3))=some y1:=hf 1 _ rfl;rw[hC3] at f1;have f2:DataW.trod enc Tryz.prog w 0 (fun _=>true) true k' 3 (([c0,c1,c2,c3,c4,c5].drop 2).take (Tryz.prog.cellsOf 3))=some y2:=hf 2 _ rfl;rw[hC3] at f2;have f3:DataW.trod enc Tryz.prog w 0 (fun _=>true) true k' 44 (([c0,c1,c2,c3,c4,c5].drop 3).take (Tryz.prog.cellsOf 44))=some y3:=hf 3 _ rfl;rw[hC73] at f3;have f4:DataW.trod enc Tryz.prog w 0 (fun _=>true) true k' 29 (([c0,c1,c2,c3,c4,c5].drop 4).take (Tryz.prog.cellsOf 29))=some y4:=hf 4 _ rfl;rw[hC27] at f4;have f5:DataW.trod enc Tryz.prog w 0 (fun _=>true) true k' 29 (([c0,c1,c2,c3,c4,c5].drop 5).take (Tryz.prog.cellsOf 29))=some y5:=hf 5 _ rfl;rw[hC27] at f5;obtain⟨n0,q0,_,w0⟩:=DataW.trod_int (x:=y0) hu3 f0;obtain⟨n1,q1,_,w1⟩:=DataW.trod_int (x:=y1) hu3 f1;obtain⟨n2,q2,_,w2⟩:=DataW.trod_int (x:=y2) hu3 f2;obtain⟨bs,hb⟩:=zj1 (v:=c3) f3;obtain⟨ks,hk1,hk2⟩:=ih k' (by omega) c4 y4 f4;obtain⟨ds,hd1,hd2⟩:=ih k' (by omega) c5 y5 f5;simp at q0 q1 q2;subst q0 q1 q2;refine⟨.mk n0 n1 n2 bs ks ds,.mk (zcF w0) hk2 hd2,?_⟩;rw[ziR];exact M.AtL.cons M.At.one (M.AtL.cons M.At.one (M.AtL.cons M.At.one (M.AtL.cons hb (M.AtL.cons hk1 (M.AtL.cons hd1 M.AtL.nil)))))
namespace Go.Fld
open Go Go.ChangeShapes Go.WideShapes Go.ChangeAt Go.RowKit Go.Deep Go.Proofs
section
variable {H:Type} {enc:TypeId × Value->H} {w:World}
theorem fd7_open {n:Nat}{c0 c1 c2 c3 c4 c5 c6:Value}{x:DataW H × List MemPlace}(h3:DataW.trod enc Tryz.prog w 0 (fun _=>true) true n 26 [c0,c1,c2,c3,c4,c5,c6]=some x) :
  ∃(f:Fd) (p:Option Addr) (cap:Nat),[c0,c1,c2,c3,c4,c5,c6]=[.string f.nm,.bool f.nl,.int .i64 f.k,.int .i64 f.wd,.int .i64 f.id,.int .i64 f.ix,.slice p f.kids.length cap]/\FdAt w f [c0,c1,c2,c3,c4,c5,c6]:=by
 have hC9:Tryz.prog.cellsOf 9=1:=by kernel_rfl
 have hC4:Tryz.prog.cellsOf 4=1:=by kernel_rfl
 have hC3:Tryz.prog.cellsOf 3=1:=by kernel_rfl
 have hC57:Tryz.prog.cellsOf 24=5:=by kernel_rfl
 have hC23:Tryz.prog.cellsOf 22=1:=by kernel_rfl
 obtain⟨xs,k,rfl,_,_,hxl,hf⟩:=DataW.trod_struct Tryz.underlying26 h3;obtain⟨y0,y1,y2,rfl⟩:∃y0 y1 y2,xs=[y0,y1,y2]:=by
  match xs,hxl with
  | [a,b,c],_=>exact⟨a,b,c,rfl⟩
 have f0:DataW.trod enc Tryz.prog w 0 (fun _=>true) true k 9 (([c0,c1,c2,c3,c4,c5,c6].drop 0).take (Tryz.prog.cellsOf 9))=some y0:=hf 0 _ rfl;have f1:DataW.trod enc Tryz.prog w 0 (fun _=>true) true k 4 (([c0,c1,c2,c3,c4,c5,c6].drop 1).take (Tryz.prog.cellsOf 4))=some y1:=hf 1 _ rfl;have f2:DataW.trod enc Tryz.prog w 0 (fun _=>true) true k 24 (([c0,c1,c2,c3,c4,c5,c6].drop 2).take (Tryz.prog.cellsOf 24))=some y2:=hf 2 _ rfl;rw[hC9] at f0;rw[hC4] at f1;rw[hC57] at f2;obtain⟨s,e0,_,hs⟩:=DataW.trod_string (x:=y0) Tryz.underlying9 f0;obtain⟨b,e1,_⟩:=DataW.trod_bool (x:=y1) Tryz.underlying4 f1;obtain⟨zs,k',rfl,_,_,hzl,hg⟩:=DataW.trod_struct (x:=y2) Tryz.underlying24 f2;obtain⟨z0,z1,z2,z3,z4,rfl⟩:∃z0 z1 z2 z3 z4,zs=[z0,z1,z2,z3,z4]:=by
  match zs,hzl with
  | [a,b,c,d,e],_=>exact⟨a,b,c,d,e,rfl⟩
 have g0:DataW.trod enc Tryz.prog w 0 (fun _=>true) true k' 3 (([c2,c3,c4,c5,c6].drop 0).take (Tryz.prog.cellsOf 3))=some z0:=hg 0 _ rfl;rw[hC3] at g0;have g1:DataW.trod enc Tryz.prog w 0 (fun _=>true) true k' 3 (([c2,c3,c4,c5,c6].drop 1).take (Tryz.prog.cellsOf 3))=some z1:=hg 1 _ rfl;rw[hC3] at g1;have g2:DataW.trod enc Tryz.prog w 0 (fun _=>true) true k' 3 (([c2,c3,c4,c5,c6].drop 2).take (Tryz.prog.cellsOf 3))=some z2:=hg 2 _ rfl;rw[hC3] at g2;have g3:DataW.trod enc Tryz.prog w 0 (fun _=>true) true k' 3 (([c2,c3,c4,c5,c6].drop 3).take (Tryz.prog.cellsOf 3))=some z3:=hg 3 _ rfl;rw[hC3] at g3;have g4:DataW.trod enc Tryz.prog w 0 (fun _=>true) true k' 22 (([c2,c3,c4,c5,c6].drop 4).take (Tryz.prog.cellsOf 22))=some z4:=hg 4 _ rfl;rw[hC23] at g4;obtain⟨n0,q0,_,w0⟩:=DataW.trod_int (x:=z0) Tryz.underlying3 g0;obtain⟨n1,q1,_,w1⟩:=DataW.trod_int (x:=z1) Tryz.underlying3 g1;obtain⟨n2,q2,_,w2⟩:=DataW.trod_int (x:=z2) Tryz.underlying3 g2;obtain⟨n3,q3,_,w3⟩:=DataW.trod_int (x:=z3) Tryz.underlying3 g3;obtain⟨L,p,cp,e6,hl6,hm6,hC6⟩:=zpq k' c6 z4 g4;simp at e0 e1 q0 q1 q2 q3;subst e0 e1 q0 q1 q2 q3 e6;refine⟨.mk s b n0 n1 n2 n3 L,p,cp,rfl,?_⟩;simp only[FdAt];exact⟨hs,zcF w0,zcF w1,zcF w2,zcF w3,p,cp,rfl,hl6,hm6,hC6⟩
theorem dt6_open {n:Nat}{c0 c1 c2 c3 c4 c5:Value}{y:DataW H × List MemPlace}(hy:DataW.trod enc Tryz.prog w 0 (fun _=>true) true n 46 [c0,c1,c2,c3,c4,c5]=some y) :
  ∃(d:Dt) (bp kp dp:Option Addr) (bc kc dc:Nat),[c0,c1,c2,c3,c4,c5]=[.int .i64 d.len,.int .i64 d.off,.int .i64 d.nul,.slice bp d.bufs.length bc,.slice kp d.kids.length kc,.slice dp d.dict.length dc]/\DAt (fun _=>True) w d [c0,c1,c2,c3,c4,c5]/\DtOk d:=by
 have hC3:Tryz.prog.cellsOf 3=1:=by kernel_rfl
 have hC73:Tryz.prog.cellsOf 44=1:=by kernel_rfl
 have hC27:Tryz.prog.cellsOf 29=1:=by kernel_rfl
 have hu3:Tryz.prog.underlying 3=some (.int .i64):=by kernel_rfl
 obtain⟨xs,k',rfl,_,_,hxl,hf⟩:=DataW.trod_struct (x:=y) Tryz.underlying46 hy;obtain⟨y0,y1,y2,y3,y4,y5,rfl⟩:∃y0 y1 y2 y3 y4 y5,xs=[y0,y1,y2,y3,y4,y5]:=by
  match xs,hxl with
  | [a,b,c,d,e,f],_=>exact⟨a,b,c,d,e,f,rfl⟩
 have f0:DataW.trod enc Tryz.prog w 0 (fun _=>true) true k' 3 (([c0,c1,c2,c3,c4,c5].drop 0).take (Tryz.prog.cellsOf 3))=some y0:=hf 0 _ rfl;rw[hC3] at f0;have f1:DataW.trod enc Tryz.prog w 0 (fun _=>true) true k' 3 (([c0,c1,c2,c3,c4,c5].drop 1).take (Tryz.prog.cellsOf 3))=some y1:=hf 1 _ rfl;rw[hC3] at f1;have f2:DataW.trod enc Tryz.prog w 0 (fun _=>true) true k' 3 (([c0,c1,c2,c3,c4,c5].drop 2).take (Tryz.prog.cellsOf 3))=some y2:=hf 2 _ rfl;rw[hC3] at f2;have f3:DataW.trod enc Tryz.prog w 0 (fun _=>true) true k' 44 (([c0,c1,c2,c3,c4,c5].drop 3).take (Tryz.prog.cellsOf 44))=some y3:=hf 3 _ rfl;rw[hC73] at f3;have f4:DataW.trod enc Tryz.prog w 0 (fun _=>true) true k' 29 (([c0,c1,c2,c3,c4,c5].drop 4).take (Tryz.prog.cellsOf 29))=some y4:=hf 4 _ rfl;rw[hC27] at f4;have f5:DataW.trod enc Tryz.prog w 0 (fun _=>true) true k' 29 (([c0,c1,c2,c3,c4,c5].drop 5).take (Tryz.prog.cellsOf 29))=some y5:=hf 5 _ rfl;rw[hC27] at f5;obtain⟨n0,q0,_,w0⟩:=DataW.trod_int (x:=y0) hu3 f0;obtain⟨n1,q1,_,w1⟩:=DataW.trod_int (x:=y1) hu3 f1;obtain⟨n2,q2,_,w2⟩:=DataW.trod_int (x:=y2) hu3 f2;obtain⟨bs,hb⟩:=zj1 (v:=c3) f3;obtain⟨ks,hk1,hk2⟩:=zlb k' c4 y4 f4;obtain⟨ds,hd1,hd2⟩:=zlb k' c5 y5 f5;simp at q0 q1 q2;subst q0 q1 q2;have hat:DAt (fun _=>True) w (.mk n0 n1 n2 bs ks ds) [.int .i64 n0,.int .i64 n1,.int .i64 n2,c3,c4,c5]:=by
  show M.AtL _ w (dtR _) _;rw[ziR];exact M.AtL.cons M.At.one (M.AtL.cons M.At.one (M.AtL.cons M.At.one (M.AtL.cons hb (M.AtL.cons hk1 (M.AtL.cons hd1 M.AtL.nil)))))
 obtain⟨bp,bc,kp,kc,dp,dc,e,-⟩:=hat.shape;exact⟨.mk n0 n1 n2 bs ks ds,bp,kp,dp,bc,kc,dc,e,hat,.mk (zcF w0) hk2 hd2⟩
theorem start_open {base:Nat}{v:Value}{d:DataW H}{p:List MemPlace}(hv:Value.okWide Tryz.prog w .any base 28 v)(h:DataW.Trod enc Tryz.prog w 0 (fun _=>true) true 28 v d p) :
  ∃(op:Int) (f:Fd) (q:Option Addr) (cap:Nat),v=.agg #[.int .i64 op,.string f.nm,.bool f.nl,.int .i64 f.k,.int .i64 f.wd,.int .i64 f.id,.int .i64 f.ix,.slice q f.kids.length cap]/\zah op/\FdAt w f (f7 f q cap):=by
 have hC:Tryz.prog.cellsOf 28=8:=by kernel_rfl
 have hC3:Tryz.prog.cellsOf 3=1:=by kernel_rfl
 have hC26:Tryz.prog.cellsOf 26=7:=by kernel_rfl
 have hu3:Tryz.prog.underlying 3=some (.int .i64):=by kernel_rfl
 obtain⟨cs,rfl,hsz⟩:=okWide_struct Tryz.underlying28 hv;rw[hC] at hsz;obtain⟨c0,c1,c2,c3,c4,c5,c6,c7,rfl⟩:∃c0 c1 c2 c3 c4 c5 c6 c7,cs=#[c0,c1,c2,c3,c4,c5,c6,c7]:=by
  match cs,hsz with
  | ⟨[a,b,c,d,e,f,g,h]⟩,_=>exact⟨a,b,c,d,e,f,g,h,rfl⟩
 obtain⟨fuel,hf⟩:=h;obtain⟨xs,n,rfl,_,_,hxl,hff⟩:=DataW.trod_struct Tryz.underlying28 hf;obtain⟨y0,y1,rfl⟩:∃y0 y1,xs=[y0,y1]:=by
  match xs,hxl with
  | [a,b],_=>exact⟨a,b,rfl⟩
 have f0:DataW.trod enc Tryz.prog w 0 (fun _=>true) true n 3 (([c0,c1,c2,c3,c4,c5,c6,c7].drop 0).take (Tryz.prog.cellsOf 3))=some y0:=hff 0 _ rfl;rw[hC3] at f0;have f1:DataW.trod enc Tryz.prog w 0 (fun _=>true) true n 26 (([c0,c1,c2,c3,c4,c5,c6,c7].drop 1).take (Tryz.prog.cellsOf 26))=some y1:=hff 1 _ rfl;rw[hC26] at f1;obtain⟨n0,q0,_,w0⟩:=DataW.trod_int (x:=y0) hu3 f0;obtain⟨f,q,cap,e,hat⟩:=fd7_open (x:=y1) f1;simp at q0;subst q0;injection e with e1 e;injection e with e2 e;injection e with e3 e;injection e with e4 e;injection e with e5 e;injection e with e6 e;injection e with e7 e
 subst e1 e2 e3 e4 e5 e6 e7;exact⟨n0,f,q,cap,rfl,zcF w0,hat⟩
theorem data_open {base:Nat}{v:Value}{d:DataW H}{p:List MemPlace}(hv:Value.okWide Tryz.prog w .any base 46 v)(h:DataW.Trod enc Tryz.prog w 0 (fun _=>true) true 46 v d p) :
  ∃(d:Dt) (bp kp dp:Option Addr) (bc kc dc:Nat),v=.agg #[.int .i64 d.len,.int .i64 d.off,.int .i64 d.nul,.slice bp d.bufs.length bc,.slice kp d.kids.length kc,.slice dp d.dict.length dc]/\DAt (fun _=>True) w d (d6 d bp bc kp kc dp dc)/\DtOk d:=by
 have hC:Tryz.prog.cellsOf 46=6:=by kernel_rfl
 obtain⟨cs,rfl,hsz⟩:=okWide_struct Tryz.underlying46 hv;rw[hC] at hsz;obtain⟨c0,c1,c2,c3,c4,c5,rfl⟩:∃c0 c1 c2 c3 c4 c5,cs=#[c0,c1,c2,c3,c4,c5]:=by
  match cs,hsz with
  | ⟨[a,b,c,d,e,f]⟩,_=>exact⟨a,b,c,d,e,f,rfl⟩
 obtain⟨fuel,hf⟩:=h;obtain⟨d,bp,kp,dp,bc,kc,dc,e,hat,hok⟩:=dt6_open hf;injection e with e1 e;injection e with e2 e;injection e with e3 e;injection e with e4 e;injection e with e5 e;injection e with e6 e
 subst e1 e2 e3 e4 e5 e6;exact⟨d,bp,kp,dp,bc,kc,dc,rfl,hat,hok⟩
end
end Go.Fld
