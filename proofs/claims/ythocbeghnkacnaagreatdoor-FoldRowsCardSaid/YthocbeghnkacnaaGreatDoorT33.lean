import Derived.Test.YthocbeghnkacnaaGreatDoorT31
import Derived.Lib.Bytealg
import Derived.Lib.Zigzag
set_option linter.unusedVariables false
set_option linter.unusedSimpArgs false
set_option linter.unnecessarySimpa false
set_option maxRecDepth 100000
set_option maxHeartbeats 16000000
namespace Go.Fld
open Go Go.RowKit Go.Proofs Go.ChangeShapes Go.WideShapes Go.ChangeAt Go.Shelf Go.Fld.Late
theorem zfD {p:Nat->Prop}(h:∃n,p n):∃n,p n/\∀m,p m->n<=m:=by
 obtain⟨n,hn⟩:=h
 induction n using Nat.strongRecOn with
 | _ n ih=>
  by_cases hl:∃m,m<n/\p m
  ·obtain⟨m,h1,h2⟩:=hl;exact ih m h1 h2
  ·exact⟨n,hn,fun m hm=>by
    by_cases e:n<=m
    ·exact e
    ·exact absurd ⟨m,by omega,hm⟩ hl⟩
open Classical in
noncomputable def zgh (p:Nat->Prop):Nat:=if h:∃n,p n then Classical.choose (zfD h) else 0
theorem zmC {p:Nat->Prop}(h:∃n,p n):p (zgh p):=by
 unfold zgh;rw[dif_pos h];exact(Classical.choose_spec (zfD h)).1
theorem zoR {p:Nat->Prop}{n:Nat}(h:p n):zgh p<=n:=by
 unfold zgh;rw[dif_pos ⟨n,h⟩];exact(Classical.choose_spec (zfD ⟨n,h⟩)).2 n h
theorem zc2 {f g:Fd}(h:g ∈ f.kids):zau g<zau f:=by
 cases f with
 | mk nm nl k wd id ix kids=>
  have:=zd6 (show g ∈ kids from h);rw[zau];omega
def zgL (w:World)(rb:Nat)(B:Bool)(n:Nat)(wr:World):Prop:=∃(g:Fd) (inD:Bool) (p:Option Addr) (cap:Nat),zau g=n/\zcl g=B/\zck inD g/\FdAt w g (f7 g p cap) /\
 BoxN wr rb 26 (f7 g p cap)/\Below w.heap.size w wr
theorem zoS {f g:Fd}{r:List Fd}(hk:f.k=20)(h:f.kids=g :: r):zcl f=zcl g:=by rw[zfy,if_pos hk,h,zkE]
theorem zp1 {f:Fd}(hk:f.k=20)(h:0<f.kids.length):zcl f=zcl f.kids[0]:=by
 cases f with
 | mk nm nl k wd id ix kids=>
  cases kids with
  | nil=>cases h
  | cons g r=>exact zoS hk rfl
theorem zoT {f:Fd}(hk:f.k≠20):zcl f=(f.nl && decide (f.k≠18)):=by rw[zfy,if_neg hk]
theorem zmD {inD:Bool}{w:World}{f:Fd}{fs:List Value}(hg:zck inD f)(hf:FdAt w f fs):Calls Tryz.prog 195 #[.agg fs.toArray] w (zaM w (.bool (zcl f))):=by
 obtain⟨p,cap,rfl,-⟩:=hf.shape;obtain⟨W1,hW,a0,hBW⟩:=zao w 26 (f7 f p cap);have HW:=zh hW;have HJ:=zh (show zgL w w.heap.size (zcl f) (zau f) W1 from⟨f,inD,p,cap,rfl,rfl,hg,hf,a0,hBW⟩);generalize zcl f=B at *;clear hW a0 hBW hf hg
 go_in
 go_wp2_with fail;rw[<-HW.o];clear HW
 go_loopw [] (fun wr=>∃n,Hid (zgL w w.heap.size B n wr)) (fun wr=>zgh (fun n=>zgL w w.heap.size B n wr))
 case atStart=>exact⟨_,HJ⟩
 case round=>
  obtain⟨n0,H0⟩:=hrel;have h1:=zmC (p:=fun n=>zgL w w.heap.size B n wr) ⟨n0,H0.o⟩;obtain⟨n,hn⟩:∃n,zgh (fun n=>zgL w w.heap.size B n wr)=n:=⟨_,rfl⟩;rw[hn] at h1;have HN:=zh hn;clear H0 hn;obtain⟨g,inD,p,cap,hd,hl,hg,hf,hbx,hb⟩:=h1;have HB:=zh hb;have HF:=zh hf;have HBX:=zh hbx;have HD:=zh hd;have HG:=zh hg;have HL:=zh hl;have p1:=hbx.row 1 _ rfl;have p2:=hbx.row 2 _ rfl;have p6:=hbx.row 6 _ rfl;have p0:=hbx.row 0 _ rfl;have p3:=hbx.row 3 _ rfl;have p4:=hbx.row 4 _ rfl;have p5:=hbx.row 5 _ rfl;obtain⟨z0,z1,z2,z3,z4,z5,z6⟩:=ff7 hbx;have hlt:=hbx.lt;by_cases hk:g.k=20
  ·obtain⟨⟨g1,-,-,-⟩,g5⟩:=zbp.1 hg;have hone:=zaW g1 (by omega:g.k=15\/g.k=16\/g.k=19\/g.k=20);obtain⟨p',c',hcs,hk',-⟩:=hf.shape;cases hcs;obtain⟨_,_,e,-,-,hC⟩:=hk';cases e;obtain⟨kb,ko,q,c,rfl,e3,c0,c1,c2,c3,c4,c5,c6⟩:=hC.seven 0 (by omega);have HE3:=zh e3;simp only[Nat.zero_mul,Nat.add_zero] at c0 c1 c2 c3 c4 c5 c6;replace c0:=zaa hb c0;replace c1:=zaa hb c1;replace c2:=zaa hb c2;replace c3:=zaa hb c3;replace c4:=zaa hb c4;replace c5:=zaa hb c5;replace c6:=zaa hb c6;have hm:g.kids[0] ∈ g.kids:=List.getElem_mem (by omega);have HM:=zh hm;have HGG:=zh (zbj g5 _ hm);have HLL:=zh (zp1 hk (by omega));have HDD:=zh (zc2 hm);have q1:(g.k == 20)=true:=by simp[hk]
   have q2:((g.kids.length:Int) == 1)=true:=by simp;omega
   have hk1:0<g.kids.length:=by omega
   have hkI:(0:Int)<(g.kids.length:Int):=by omega
   clear hd hl hg hf hb hk g1 g5 hC e3 hm;generalize g.kids[0]=x at *;go_wp2_with fail;have hJ:zgL w w.heap.size B (zau x) (put7 wr w.heap.size (.string x.nm) (.bool x.nl) (.int .i64 x.k) (.int .i64 x.wd) (.int .i64 x.id) (.int .i64 x.ix) (.slice q x.kids.length c)):=
    ⟨x,_,q,c,rfl,HLL.o.symm.trans HL.o,HGG.o,HE3.o,za0 rfl HBX.o _ _ _ _ _ _ _,zaI HB.o (Nat.le_refl _) _ _ _ _ _ _ _⟩
   exact⟨⟨_,zh hJ⟩,Nat.lt_of_le_of_lt (zoR (p:=fun n=>zgL w w.heap.size B n _) hJ) (by rw[HN.o,<-HD.o];exact HDD.o)⟩
  ·have q1:(g.k == 20)=false:=by simpa using hk
   have HE:=zh (show B=(g.nl && decide (g.k≠18)) by rw[<-hl];exact zoT hk);by_cases h18:g.k=18
   ·have q2:(g.k != 18)=false:=by simp[h18]
    cases hn:g.nl with
    | true=>
     rw[hn] at p1;have HE2:=zh (show B=false by rw[HE.o,hn];simp[h18]);clear hd hl hg hf hb hbx hk hn h18;go_wp2_with fail;rw[HE2.o];go_ret;exact⟨rfl,HB.o⟩
    | false=>
     rw[hn] at p1;have HE2:=zh (show B=false by rw[HE.o,hn];rfl);clear hd hl hg hf hb hbx hk hn h18;go_wp2_with fail;rw[HE2.o];go_ret;exact⟨rfl,HB.o⟩
   ·have q2:(g.k != 18)=true:=by simpa using h18
    cases hn:g.nl with
    | true=>
     rw[hn] at p1;have HE2:=zh (show B=true by rw[HE.o,hn];simp[h18]);clear hd hl hg hf hb hbx hk hn h18;go_wp2_with fail;rw[HE2.o];go_ret;exact⟨rfl,HB.o⟩
    | false=>
     rw[hn] at p1;have HE2:=zh (show B=false by rw[HE.o,hn];rfl);clear hd hl hg hf hb hbx hk hn h18;go_wp2_with fail;rw[HE2.o];go_ret;exact⟨rfl,HB.o⟩
theorem znH {w:World}{f:Fd}{fs:List Value}(hf:FdAt w f fs)(hS:SaysAt w):Calls Tryz.prog 186 #[.agg fs.toArray] w (zaM w (.bool (zbN f))):=by
 obtain⟨p,cap,rfl,-⟩:=hf.shape;obtain⟨b,hb⟩:=Fld.nm (zbN f);rw[<-hb];unfold zbN at hb;have HM:=zh hb;obtain⟨W1,hW,a0,hBW⟩:=zao w 26 (f7 f p cap);have HW:=zh hW;have HBW:=zh hBW;have HC:=zh (zdg (hf.below hBW) (hS.below hBW));clear hf hS hb hW a0 hBW
 go_in
 go_wp2_with fail;rw[<-HW.o];refine HC.o.mono ?_;rintro e W2 ⟨d,path,at',rfl,⟨q,c,rfl,-,-,-⟩,hb2⟩;have HB:=zh (HBW.o.trans (hb2.mono HBW.o.size));clear hb2;generalize zbh f=fe at *;have hfd:=zjs fe at' q d c W2;go_wp2_with fail;go_ret;exact⟨by rw[HM.o];rfl,HB.o⟩
theorem zlF {w:World}{f:Fd}{fs:List Value}(hf:FdAt w f fs)(hS:SaysAt w):Calls Tryz.prog 18 #[.agg fs.toArray] w (zaM w (.bool (zbN f))):=by
 obtain⟨p,cap,rfl,-⟩:=hf.shape;obtain⟨b,hb⟩:=Fld.nm (zbN f);rw[<-hb];unfold zbN at hb;have HM:=zh hb;obtain⟨W1,hW,a0,hBW⟩:=zao w 26 (f7 f p cap);have HW:=zh hW;have HBW:=zh hBW;have HC:=zh (zdg (hf.below hBW) (hS.below hBW));clear hf hS hb hW a0 hBW
 go_in
 go_wp2_with fail;rw[<-HW.o];refine HC.o.mono ?_;rintro e W2 ⟨d,path,at',rfl,⟨q,c,rfl,-,-,-⟩,hb2⟩;have HB:=zh (HBW.o.trans (hb2.mono HBW.o.size));clear hb2;generalize zbh f=fe at *;have hfd:=zjs fe at' q d c W2;go_wp2_with fail;go_ret;exact⟨by rw[HM.o];rfl,HB.o⟩
def zfe (k:Int):Bool:=decide (3<=k) && decide (k<=10)
theorem zlG (w:World)(k:Int):Calls Tryz.prog 198 #[.int .i64 k] w (zaz w (.bool (zfe k))):=by
 unfold zfe;by_cases h3:3<=k
 ·by_cases h10:k<=10
  ·have q1:decide (3<=k)=true:=decide_eq_true h3;have q2:decide (k<=10)=true:=decide_eq_true h10
   go_in
   go_wp2_with fail;go_ret;exact⟨by rw[q1,q2];rfl,rfl⟩
  ·have q1:decide (3<=k)=true:=decide_eq_true h3;have q2:decide (k<=10)=false:=decide_eq_false h10
   go_in
   go_wp2_with fail;go_ret;exact⟨rfl,rfl⟩
 ·have q1:decide (3<=k)=false:=decide_eq_false h3
  go_in
  go_wp2_with fail;go_ret;exact⟨rfl,rfl⟩
theorem zkz (w:World)(k:Int)(hk:zfe k=true)(n:Int)(hn:zah n):Calls Tryz.prog 199 #[.int .i64 k,.int .i64 n] w (zaz w (.bool (zdm k n))):=by
 have h1:=hn.1;have h2:=hn.2;have hk':k=3\/k=4\/k=5\/k=6\/k=7\/k=8\/k=9\/k=10:=by
  unfold zfe at hk;simp only[Bool.and_eq_true,decide_eq_true_eq] at hk;omega
 clear hn hk;obtain⟨R,hR⟩:=Fld.nm (zdm k n);rw[<-hR];unfold zdm at hR;have HR:=zh hR;clear hR;rcases hk' with rfl|rfl|rfl|rfl|rfl|rfl|rfl|rfl
 all_goals
  go_in
  go_wp2_with (go_in)
  all_goals
   go_ret;refine⟨?_,rfl⟩;show Ending.returned (Value.bool _)=_;rw[HR.o]
   congr 2
   try (simp;done)
   try (simp;omega)
theorem zjd (w:World)(x y:Int):Calls Tryz.prog 193 #[.int .i64 x,.int .i64 y] w (zaz w (.int .i64 (zbZ x y))):=by
 rcases zfm x y with⟨e,h⟩|⟨e,h⟩|⟨e,h⟩
 all_goals
  rw[e];have q1:decide (x<y)=false\/decide (x<y)=true:=by cases decide (x<y) <;> simp
  have q2:decide (y<x)=false\/decide (y<x)=true:=by cases decide (y<x) <;> simp
  rcases q1 with q1|q1 <;> rcases q2 with q2|q2 <;> (first|(exfalso;simp only[decide_eq_false_iff_not,decide_eq_true_eq] at q1 q2;omega)|skip)
  go_in
  go_wp2_with (go_in);go_ret;exact⟨rfl,rfl⟩
theorem zgM (w:World)(x y:Int):Calls Tryz.prog 194 #[.int .i64 x,.int .i64 y] w (zaz w (.int .i64 (zbZ x y))):=by
 rcases zfm x y with⟨e,h⟩|⟨e,h⟩|⟨e,h⟩
 all_goals
  rw[e];have q1:decide (x<y)=false\/decide (x<y)=true:=by cases decide (x<y) <;> simp
  have q2:decide (y<x)=false\/decide (y<x)=true:=by cases decide (y<x) <;> simp
  rcases q1 with q1|q1 <;> rcases q2 with q2|q2 <;> (first|(exfalso;simp only[decide_eq_false_iff_not,decide_eq_true_eq] at q1 q2;omega)|skip)
  go_in
  go_wp2_with (go_in);go_ret;exact⟨rfl,rfl⟩
theorem zje (w:World)(x y:Int):Calls Tryz.prog 190 #[.int .u64 x,.int .u64 y] w (zaz w (.int .i64 (zbZ x y))):=by
 rcases zfm x y with⟨e,h⟩|⟨e,h⟩|⟨e,h⟩
 all_goals
  rw[e];have q1:decide (x<y)=false\/decide (x<y)=true:=by cases decide (x<y) <;> simp
  have q2:decide (y<x)=false\/decide (y<x)=true:=by cases decide (y<x) <;> simp
  rcases q1 with q1|q1 <;> rcases q2 with q2|q2 <;> (first|(exfalso;simp only[decide_eq_false_iff_not,decide_eq_true_eq] at q1 q2;omega)|skip)
  go_in
  go_wp2_with (go_in);go_ret;exact⟨rfl,rfl⟩
theorem zij (w:World)(n:Int)(hn:zah n):Calls Tryz.prog 191 #[.int .i64 n] w (zaz w (.int .u64 (zeg n))):=by
 have h1:=hn.1;have h2:=hn.2;clear hn;obtain⟨R,hR⟩:=Fld.nm (zeg n);rw[<-hR];unfold zeg at hR;have HR:=zh hR;clear hR;by_cases h:n<0
 ·have q:decide (n<0)=true:=decide_eq_true h;have HE:Hid (bits .xor .u64 IntKind.u64.max (IntKind.u64.wrap n)=R):=zh (by
   rw[HR.o,if_pos h];have e1:IntKind.u64.wrap n=(((n+18446744073709551616).toNat:Nat):Int):=by rw[zen];omega
   have e2:IntKind.u64.max=((2 ^ 64-1:Nat):Int):=by decide
   rw[e1,e2,bits_xor_u64_nat _ _ (by decide) (by omega),Lib.xor_ones64 _ (by omega)];omega)
  clear h
  go_in
  go_wp2_with fail;go_ret;refine⟨?_,rfl⟩;show Ending.returned (Value.int .u64 _)=_;rw[HE.o]
 ·have q:decide (n<0)=false:=decide_eq_false h;have HE:Hid (bits .or .u64 (IntKind.u64.wrap n) 9223372036854775808=R):=zh (by
   rw[HR.o,if_neg h];have e1:IntKind.u64.wrap n=n:=by rw[zen];omega
   have h32:(2:Int) ^ 63=9223372036854775808:=by decide
   rw[e1,znr (i:=63) (by omega) (by omega) (by rw[h32];omega) (by omega) (by rw[h32];omega) (by omega)])
  clear h
  go_in
  go_wp2_with fail;go_ret;refine⟨?_,rfl⟩;show Ending.returned (Value.int .u64 _)=_;rw[HE.o]
theorem zjf:∀a b:List UInt8,∀i,Lib.compareBytes a b=zcp (fun _ x y=>zbZ ((x:UInt8).toNat:Int) ((y:UInt8).toNat:Int)) i a b
 | [],[],_=>rfl
 | [],_ :: _,_=>rfl
 | _ :: _,[],_=>rfl
 | x :: a,y :: b,i=>by
  rw[Lib.compareBytes,zcp,<-zjf a b (i+1)];rcases zfm ((x:UInt8).toNat:Int) ((y:UInt8).toNat:Int) with⟨e,h⟩|⟨e,h⟩|⟨e,h⟩
  ·rw[e,if_pos (UInt8.lt_iff_toNat_lt.2 (by omega)),if_neg (by decide)]
  ·rw[e,if_neg (fun h'=>by have:=UInt8.lt_iff_toNat_lt.1 h';omega),if_neg (fun h'=>by have:=UInt8.lt_iff_toNat_lt.1 h';omega),if_pos rfl]
  ·rw[e,if_neg (fun h'=>by have:=UInt8.lt_iff_toNat_lt.1 h';omega),if_pos (UInt8.lt_iff_toNat_lt.2 (by omega)),if_neg (by decide)]
theorem znI (a b:ByteArray):Lib.compareBytes a.data.toList b.data.toList=ziE a b:=zjf _ _ 0
theorem zfg (w:World)(a b:ByteArray):Calls Tryz.prog 192 #[.string a,.string b] w (zaz w (.int .i64 (ziE a b))):=by
 rw[<-znI]
 go_in
 go_wp2_with (go_in);rw[run_callFunc_extern Tryz.func206 (by kernel_rfl) (by kernel_rfl) (by kernel_rfl) (e:=Extern.BytealgCompare.compare) (by kernel_rfl),Lib.run_compareString];simp only[Result.andThen];rw[Oper.upon_value];go_wp2_with fail;go_ret;exact⟨rfl,rfl⟩
end Go.Fld
namespace Go.Fld
open Go Go.RowKit Go.Proofs Go.ChangeShapes Go.WideShapes Go.ChangeAt Go.Shelf Go.Fld.Late
theorem zlH (x:Int):IntKind.u64.wrap x=x % 18446744073709551616:=by
 simp[IntKind.wrap,IntKind.bits,IntKind.signed]
def zp2 (m:Nat):Prop:=∀(inD:Bool) (f:Fd) (a b:Vl) (w:World) (fs cs ds:List Value),zck inD f->FdAt w f fs->VAt (fun _=>True) w a cs->VAt (fun _=>True) w b ds->zhx m f a->zhx m f b->Calls Tryz.prog 188 #[.agg fs.toArray,.agg cs.toArray,.agg ds.toArray] w (zaM w (.int .i64 (zbw m f a b)))
theorem zhH {c:Nat->Vl->Vl->Int}{k:Nat}{l r:List Vl}(h1:k<l.length)(h2:k<r.length)(i:Nat):zcp c i (l.drop k) (r.drop k)=if c i l[k] r[k]=0 then zcp c (i+1) (l.drop (k+1)) (r.drop (k+1)) else c i l[k] r[k]:=by
 rw[List.drop_eq_getElem_cons h1,List.drop_eq_getElem_cons h2,zcp]
theorem ziG {c:Nat->Vl->Vl->Int}{k:Nat}{l r:List Vl}(h:k=min l.length r.length)(i:Nat):zcp c i (l.drop k) (r.drop k)=zbZ (l.length:Int) (r.length:Int):=by
 by_cases h1:l.length<=k
 ·rw[List.drop_eq_nil_of_le h1];by_cases h2:r.length<=k
  ·rw[List.drop_eq_nil_of_le h2,zcp];unfold zbZ;rw[if_neg (by omega),if_neg (by omega)]
  ·rw[List.drop_eq_getElem_cons (by omega),zcp];unfold zbZ;rw[if_pos (by omega)]
 ·have h2:r.length<=k:=by omega
  rw[List.drop_eq_nil_of_le h2,List.drop_eq_getElem_cons (by omega),zcp];unfold zbZ;rw[if_neg (by omega),if_pos (by omega)]
theorem zhI {m:Nat}{f:Fd}{a b:Vl}(h:a.nl=true\/b.nl=true):zbw (m+1) f a b=if a.nl=true/\b.nl=true then 0 else if a.nl=true then -1 else 1:=by rw[zbw,if_pos h]
theorem znJ (m:Nat)(ih:zp2 m):zp2 (m+1):=by
 intro inD f a b w fs cs ds hg hf ha hb oa ob;obtain⟨fp,fc,rfl,hfk,-,ik,iw,ii,ix⟩:=hf.shape;obtain⟨ap,ac,rfl,hka⟩:=ha.shape;obtain⟨bp,bc,rfl,hkb⟩:=hb.shape;obtain⟨_,_,e,hfl,hfm,hC⟩:=hfk;cases e;obtain⟨-,hl1,hl2⟩:=zam hka;obtain⟨-,hm1,hm2⟩:=zam hkb;simp only[List.length_map] at hl1 hm1;have hal:=zda oa.1;have hbl:=zda ob.1;unfold maxLen at hl2 hm2 hfm;obtain⟨an,han⟩:∃x,a.nl=x:=⟨_,rfl⟩;obtain⟨bn,hbn⟩:∃x,b.nl=x:=⟨_,rfl⟩;obtain⟨W3,hW3,a1,a2,a3,hB3⟩:=zbG w 26 (f7 f fp fc) 39 [.bool an,.int .i64 a.num,.string a.tx,.slice ap a.kids.length ac] 39 [.bool bn,.int .i64 b.num,.string b.tx,.slice bp b.kids.length bc];obtain⟨W4,hW4',a4,hB4⟩:=zao W3 24 [.int .i64 f.k,.int .i64 f.wd,.int .i64 f.id,.int .i64 f.ix,.slice fp f.kids.length fc];have hS3:W3.heap.size=w.heap.size+1+1+1:=by rw[hW3];simp only[World.size_alloc]
 have hW4:W4=(((w.alloc (.cells #[.string f.nm,.bool f.nl,.int .i64 f.k,.int .i64 f.wd,.int .i64 f.id,.int .i64 f.ix,.slice fp f.kids.length fc] 26)).alloc (.cells #[.bool an,.int .i64 a.num,.string a.tx,.slice ap a.kids.length ac] 39)).alloc (.cells #[.bool bn,.int .i64 b.num,.string b.tx,.slice bp b.kids.length bc] 39)).alloc (.cells #[.int .i64 f.k,.int .i64 f.wd,.int .i64 f.id,.int .i64 f.ix,.slice fp f.kids.length fc] 24):=by rw[hW4',hW3]
 rw[hS3] at a4;have HW3:=zh hW3;have HW4:=zh hW4;have HB3:=zh hB3;have HB4:=zh (hB3.trans (hB4.mono hB3.size));have A1:=zh (a1.below hB4 a1.lt);have A2:=zh (a2.below hB4 a2.lt);have A3:=zh (a3.below hB4 a3.lt);have A4:=zh a4;have HC:=zh hC;have HVA:=zh (show VAt (fun _=>True) w a [.bool an,.int .i64 a.num,.string a.tx,.slice ap a.kids.length ac] by rw[<-han];exact ha);have HVB:=zh (show VAt (fun _=>True) w b [.bool bn,.int .i64 b.num,.string b.tx,.slice bp b.kids.length bc] by rw[<-hbn];exact hb);have HKA:=zh hka;have HKB:=zh hkb;have OA:=zh oa;have OB:=zh ob;have HG:=zh hg;have HIH:=zh ih;have HAN:=zh han;have HBN:=zh hbn;have ian:=oa.2.num;have ibn:=ob.2.num;unfold zah at ian ibn;obtain⟨ian1,ian2⟩:=ian;obtain⟨ibn1,ibn2⟩:=ibn;obtain⟨RES,hR⟩:∃RES,zbw (m+1) f a b=RES:=⟨_,rfl⟩;have HR:=zh hR;rw[hR];show Calls Tryz.prog 188 #[.agg #[.string f.nm,.bool f.nl,.int .i64 f.k,.int .i64 f.wd,.int .i64 f.id,.int .i64 f.ix,.slice fp f.kids.length fc],.agg #[.bool a.nl,.int .i64 a.num,.string a.tx,.slice ap a.kids.length ac],.agg #[.bool b.nl,.int .i64 b.num,.string b.tx,.slice bp b.kids.length bc]] w _;rw[han,hbn];clear hf ha hb hka hkb hC hW3 hW4 hW4' a1 a2 a3 a4 hB3 hB4 oa ob hg ih hR han hbn hS3;cases an with
 | true=>
  cases bn with
  | true=>
   have HE:=zh (show RES=0 by rw[<-HR.o,zhI (.inl HAN.o),HAN.o,HBN.o];rfl)
   go_in
   go_wp2_with fail;rw[HE.o];go_ret;exact⟨rfl,by rw[<-HW3.o];exact HB3.o⟩
  | false=>
   have HE:=zh (show RES=-1 by rw[<-HR.o,zhI (.inl HAN.o),HAN.o,HBN.o];rfl)
   go_in
   go_wp2_with fail;rw[HE.o];go_ret;exact⟨rfl,by rw[<-HW3.o];exact HB3.o⟩
 | false=>
  cases bn with
  | true=>
   have HE:=zh (show RES=1 by rw[<-HR.o,zhI (.inr HBN.o),HAN.o,HBN.o];rfl)
   go_in
   go_wp2_with fail;rw[HE.o];go_ret;exact⟨rfl,by rw[<-HW3.o];exact HB3.o⟩
  | false=>
   have hor:f.k=19\/f.k=20\/f.k=10\/f.k=11\/f.k=12\/f.k=13\/f.k=14\/f.k=18\/f.k=15\/f.k=16\/f.k=17\/(f.k≠19/\f.k≠20/\f.k≠10/\f.k≠11/\f.k≠12/\f.k≠13/\f.k≠14/\f.k≠18/\f.k≠15/\f.k≠16/\f.k≠17):=by omega
   have HU:Hid (RES=if f.k=19\/f.k=20 then zbw m (zan f 0) a b
    else if f.k=10 then zbZ (a.num % 18446744073709551616) (b.num % 18446744073709551616)
    else if f.k=11 then zbZ (zeg a.num) (zeg b.num)
    else if f.k=12\/f.k=13\/f.k=14 then ziE a.tx b.tx
    else if f.k=18 then(if a.num≠b.num then zbZ a.num b.num else zbw m (zan f a.num.toNat) (zcL a) (zcL b))
    else if f.k=15\/f.k=16\/f.k=17 then zcp (fun i=>zbw m (zan f (if f.k=17 then i else 0))) 0 a.kids b.kids
    else zbZ a.num b.num):=zh (by rw[<-HR.o,zbw,if_neg (by rw[HAN.o,HBN.o];decide)])
   clear HR;rcases hor with hk|hk|hk|hk|hk|hk|hk|hk|hk|hk|hk|hk
   ·as_aux_lemma=>
     have HE:=zh (show RES=zbw m (zan f 0) a b by rw[HU.o,if_pos (by omega)]);obtain⟨⟨g1,-,-,-⟩,g5⟩:=zbp.1 HG.o;have hone:=zaW g1 (by omega:f.k=15\/f.k=16\/f.k=19\/f.k=20);have hk0:0<f.kids.length:=by omega
     have hkI:(0:Int)<(f.kids.length:Int):=by omega
     have HKID:=zh (show zan f 0=f.kids[0] by unfold zan;rw[List.getElem?_eq_getElem hk0];rfl);obtain⟨kb,ko,q,c,rfl,e3,c0,c1,c2,c3,c4,c5,c6⟩:=HC.o.seven 0 hk0;simp only[Nat.zero_mul,Nat.add_zero] at c0 c1 c2 c3 c4 c5 c6;have OA1:=zfz OA.o.1 HAN.o (by omega);have OB1:=zfz OB.o.1 HBN.o (by omega);rw[HKID.o] at OA1 OB1;have HIK:Hid (∀t,Calls Tryz.prog 188 #[.agg #[.string f.kids[0].nm,.bool f.kids[0].nl,.int .i64 f.kids[0].k,.int .i64 f.kids[0].wd,.int .i64 f.kids[0].id,.int .i64 f.kids[0].ix,.slice q f.kids[0].kids.length c],.agg #[.bool false,.int .i64 a.num,.string a.tx,.slice ap a.kids.length ac],.agg #[.bool false,.int .i64 b.num,.string b.tx,.slice bp b.kids.length bc]] (W4.drewN t) (zaM (W4.drewN t) (.int .i64 (zbw m f.kids[0] a b)))):=zh (fun t=>
      HIH.o _ f.kids[0] a b (W4.drewN t) _ _ _ (zbj g5 _ (List.getElem_mem hk0)) (e3.below (zab HB4.o t)) (HVA.o.below (zab HB4.o t)) (HVB.o.below (zab HB4.o t)) ⟨OA1,OA.o.2⟩ ⟨OB1,OB.o.2⟩)
     rw[HKID.o] at HE;replace c0:=zaa HB4.o c0;replace c1:=zaa HB4.o c1;replace c2:=zaa HB4.o c2;replace c3:=zaa HB4.o c3;replace c4:=zaa HB4.o c4;replace c5:=zaa HB4.o c5;replace c6:=zaa HB4.o c6;have q19:(f.k == 19)=true:=by simp[hk]
     clear hk hone g1 g5 e3 OA1 OB1;generalize f.kids[0]=g at *
     go_in
     go_wp2_with fail;rw[<-HW4.o];obtain⟨x0,x1,x2,x3⟩:=rr4 A2.o.row;obtain⟨y0,y1,y2,y3⟩:=rr4 A3.o.row;have v0:=A4.o.row 0 _ rfl;have v4:=A4.o.row 4 _ rfl;refine Mix.region 8 (by kernel_rfl) rfl ?_;refine Mix.phase2 (ft:=2) (ph:=[0,1,2,3,4,5]) (by repeat constructor) (by kernel_rfl) ?_
     repeat (go_big_quiet_step (fail))
     refine wpQuiet_nil ?_;rintro _ ⟨nq,rfl⟩;refine Mix.alone (i:=6) (by kernel_rfl) rfl (by rfl) (fun K hK=>?_)
     go_step
     refine(HIK.o (1+nq)).mono ?_;rintro e W5 ⟨rfl,hb5⟩;have HB5:=zh (HB4.o.trans (((zab (Below.refl _ W4) (1+nq)).trans hb5).mono HB4.o.size));refine hK _ _ ?_;clear hK K hb5;refine Mix.phase2 (ft:=0) (ph:=[7]) (.cons rfl .nil) (by kernel_rfl) ?_
     repeat (go_big_quiet_step (fail))
     refine wpQuiet_nil ?_;rintro _ ⟨nr,rfl⟩;refine Mix.done (by kernel_rfl) ?_;go_wp2_with fail;rw[HE.o];go_ret;exact⟨rfl,zab HB5.o nr⟩
   ·as_aux_lemma=>
     have HE:=zh (show RES=zbw m (zan f 0) a b by rw[HU.o,if_pos (by omega)]);obtain⟨⟨g1,-,-,-⟩,g5⟩:=zbp.1 HG.o;have hone:=zaW g1 (by omega:f.k=15\/f.k=16\/f.k=19\/f.k=20);have hk0:0<f.kids.length:=by omega
     have hkI:(0:Int)<(f.kids.length:Int):=by omega
     have HKID:=zh (show zan f 0=f.kids[0] by unfold zan;rw[List.getElem?_eq_getElem hk0];rfl);obtain⟨kb,ko,q,c,rfl,e3,c0,c1,c2,c3,c4,c5,c6⟩:=HC.o.seven 0 hk0;simp only[Nat.zero_mul,Nat.add_zero] at c0 c1 c2 c3 c4 c5 c6;have OA1:=zfz OA.o.1 HAN.o (by omega);have OB1:=zfz OB.o.1 HBN.o (by omega);rw[HKID.o] at OA1 OB1;have HIK:Hid (∀t,Calls Tryz.prog 188 #[.agg #[.string f.kids[0].nm,.bool f.kids[0].nl,.int .i64 f.kids[0].k,.int .i64 f.kids[0].wd,.int .i64 f.kids[0].id,.int .i64 f.kids[0].ix,.slice q f.kids[0].kids.length c],.agg #[.bool false,.int .i64 a.num,.string a.tx,.slice ap a.kids.length ac],.agg #[.bool false,.int .i64 b.num,.string b.tx,.slice bp b.kids.length bc]] (W4.drewN t) (zaM (W4.drewN t) (.int .i64 (zbw m f.kids[0] a b)))):=zh (fun t=>
      HIH.o _ f.kids[0] a b (W4.drewN t) _ _ _ (zbj g5 _ (List.getElem_mem hk0)) (e3.below (zab HB4.o t)) (HVA.o.below (zab HB4.o t)) (HVB.o.below (zab HB4.o t)) ⟨OA1,OA.o.2⟩ ⟨OB1,OB.o.2⟩)
     rw[HKID.o] at HE;replace c0:=zaa HB4.o c0;replace c1:=zaa HB4.o c1;replace c2:=zaa HB4.o c2;replace c3:=zaa HB4.o c3;replace c4:=zaa HB4.o c4;replace c5:=zaa HB4.o c5;replace c6:=zaa HB4.o c6;have q19:(f.k == 19)=false:=by simp;omega
     have q20:(f.k == 20)=true:=by simp[hk]
     clear hk hone g1 g5 e3 OA1 OB1;generalize f.kids[0]=g at *
     go_in
     go_wp2_with fail;rw[<-HW4.o];obtain⟨x0,x1,x2,x3⟩:=rr4 A2.o.row;obtain⟨y0,y1,y2,y3⟩:=rr4 A3.o.row;have v0:=A4.o.row 0 _ rfl;have v4:=A4.o.row 4 _ rfl;refine Mix.region 8 (by kernel_rfl) rfl ?_;refine Mix.phase2 (ft:=2) (ph:=[0,1,2,3,4,5]) (by repeat constructor) (by kernel_rfl) ?_
     repeat (go_big_quiet_step (fail))
     refine wpQuiet_nil ?_;rintro _ ⟨nq,rfl⟩;refine Mix.alone (i:=6) (by kernel_rfl) rfl (by rfl) (fun K hK=>?_)
     go_step
     refine(HIK.o (1+nq)).mono ?_;rintro e W5 ⟨rfl,hb5⟩;have HB5:=zh (HB4.o.trans (((zab (Below.refl _ W4) (1+nq)).trans hb5).mono HB4.o.size));refine hK _ _ ?_;clear hK K hb5;refine Mix.phase2 (ft:=0) (ph:=[7]) (.cons rfl .nil) (by kernel_rfl) ?_
     repeat (go_big_quiet_step (fail))
     refine wpQuiet_nil ?_;rintro _ ⟨nr,rfl⟩;refine Mix.done (by kernel_rfl) ?_;go_wp2_with fail;rw[HE.o];go_ret;exact⟨rfl,zab HB5.o nr⟩
   ·as_aux_lemma=>
     have HE:=zh (show RES=zbZ (IntKind.u64.wrap a.num) (IntKind.u64.wrap b.num) by rw[HU.o,if_neg (by omega),if_pos hk,zlH,zlH]);have q19:(f.k == 19)=false:=by simp;omega
     have q20:(f.k == 20)=false:=by simp;omega
     have q10:(f.k == 10)=true:=by simp[hk]
     clear hk
     go_in
     go_wp2_with fail;refine(zje _ _ _).mono ?_;rintro e w' ⟨rfl,rfl⟩;go_wp2_with fail;rw[HE.o];go_ret;exact⟨rfl,by rw[<-HW4.o];exact HB4.o⟩
   ·as_aux_lemma=>
     have HE:=zh (show RES=zbZ (zeg a.num) (zeg b.num) by rw[HU.o,if_neg (by omega),if_neg (by omega),if_pos hk]);have N1:Hid (∀t,Calls Tryz.prog 191 #[.int .i64 a.num] (W4.drewN t) (fun e w'=>e=.returned (.int .u64 (zeg a.num))/\∃m,w'=(W4.drewN t).drewN m)):=zh (fun t=>(zij _ _ OA.o.2.num).mono (by rintro e w' ⟨rfl,rfl⟩;exact⟨rfl,0,rfl⟩));have N2:Hid (∀t,Calls Tryz.prog 191 #[.int .i64 b.num] (W4.drewN t) (fun e w'=>e=.returned (.int .u64 (zeg b.num))/\∃m,w'=(W4.drewN t).drewN m)):=zh (fun t=>(zij _ _ OB.o.2.num).mono (by rintro e w' ⟨rfl,rfl⟩;exact⟨rfl,0,rfl⟩));have N3:Hid (∀t,Calls Tryz.prog 190 #[.int .u64 (zeg a.num),.int .u64 (zeg b.num)] (W4.drewN t) (fun e w'=>e=.returned (.int .i64 (zbZ (zeg a.num) (zeg b.num)))/\∃m,w'=(W4.drewN t).drewN m)):=zh (fun t=>(zje _ _ _).mono (by rintro e w' ⟨rfl,rfl⟩;exact⟨rfl,0,rfl⟩));have q19:(f.k == 19)=false:=by simp;omega
     have q20:(f.k == 20)=false:=by simp;omega
     have q10:(f.k == 10)=false:=by simp;omega
     have q11:(f.k == 11)=true:=by simp[hk]
     clear hk
     go_in
     go_wp2_with fail;rw[<-HW4.o];have p1:=A2.o.row 1 _ rfl;have p2:=A3.o.row 1 _ rfl
     go_quiet (first|(with_reducible exact Calls.quiet_of (N1.o _))|(with_reducible exact Calls.quiet_of (N2.o _))|(with_reducible exact Calls.quiet_of (N3.o _)))
     go_wp2_with fail;rw[HE.o];go_ret;exact⟨rfl,zab HB4.o _⟩
   ·as_aux_lemma=>
     have HE:=zh (show RES=ziE a.tx b.tx by rw[HU.o,if_neg (by omega),if_neg (by omega),if_neg (by omega),if_pos (by omega)]);have q19:(f.k == 19)=false:=by simp;omega
     have q20:(f.k == 20)=false:=by simp;omega
     have q10:(f.k == 10)=false:=by simp;omega
     have q11:(f.k == 11)=false:=by simp;omega
     have q12:(f.k == 12)=true:=by simp[hk]
     clear hk
     go_in
     go_wp2_with fail;refine(zfg _ _ _).mono ?_;rintro e w' ⟨rfl,rfl⟩;go_wp2_with fail;rw[HE.o];go_ret;exact⟨rfl,by rw[<-HW4.o];exact HB4.o⟩
   ·as_aux_lemma=>
     have HE:=zh (show RES=ziE a.tx b.tx by rw[HU.o,if_neg (by omega),if_neg (by omega),if_neg (by omega),if_pos (by omega)]);have q19:(f.k == 19)=false:=by simp;omega
     have q20:(f.k == 20)=false:=by simp;omega
     have q10:(f.k == 10)=false:=by simp;omega
     have q11:(f.k == 11)=false:=by simp;omega
     have q12:(f.k == 12)=false:=by simp;omega
     have q13:(f.k == 13)=true:=by simp[hk]
     clear hk
     go_in
     go_wp2_with fail;refine(zfg _ _ _).mono ?_;rintro e w' ⟨rfl,rfl⟩;go_wp2_with fail;rw[HE.o];go_ret;exact⟨rfl,by rw[<-HW4.o];exact HB4.o⟩
   ·as_aux_lemma=>
     have HE:=zh (show RES=ziE a.tx b.tx by rw[HU.o,if_neg (by omega),if_neg (by omega),if_neg (by omega),if_pos (by omega)]);have q19:(f.k == 19)=false:=by simp;omega
     have q20:(f.k == 20)=false:=by simp;omega
     have q10:(f.k == 10)=false:=by simp;omega
     have q11:(f.k == 11)=false:=by simp;omega
     have q12:(f.k == 12)=false:=by simp;omega
     have q13:(f.k == 13)=false:=by simp;omega
     have q14:(f.k == 14)=true:=by simp[hk]
     clear hk
     go_in
     go_wp2_with fail;refine(zfg _ _ _).mono ?_;rintro e w' ⟨rfl,rfl⟩;go_wp2_with fail;rw[HE.o];go_ret;exact⟨rfl,by rw[<-HW4.o];exact HB4.o⟩
   ·as_aux_lemma=>
     obtain⟨-,a0',a1',ka,oka⟩:=zgF OA.o.1 HAN.o hk;obtain⟨-,b0',b1',kb',okb⟩:=zgF OB.o.1 HBN.o hk;by_cases hne:a.num=b.num
     ·have HE:=zh (show RES=zbw m (zan f a.num.toNat) (zcL a) (zcL b) by rw[HU.o,if_neg (by omega),if_neg (by omega),if_neg (by omega),if_neg (by omega),if_pos hk,if_neg (by omega)]);have hj:a.num.toNat<f.kids.length:=by omega
      have hk1:0<a.kids.length:=by rw[ka];exact Nat.zero_lt_one
      have hk2:0<b.kids.length:=by rw[kb'];exact Nat.zero_lt_one
      have hka1:a.kids[0]=zcL a:=by unfold zcL;rw[List.getElem?_eq_getElem hk1];rfl
      have hkb1:b.kids[0]=zcL b:=by unfold zcL;rw[List.getElem?_eq_getElem hk2];rfl
      have HKID:=zh (show zan f a.num.toNat=f.kids[a.num.toNat] by unfold zan;rw[List.getElem?_eq_getElem hj];rfl);rw[<-hne] at okb;rw[HKID.o] at HE oka okb;obtain⟨⟨g1,-,-,-⟩,g5⟩:=zbp.1 HG.o;obtain⟨kb,ko,q,c,rfl,e3,c0,c1,c2,c3,c4,c5,c6⟩:=HC.o.seven a.num.toNat hj;obtain⟨ab,ao,aq,aqc,rfl,-,s0,s1,s2,s3,hu⟩:=zcI HKA.o 0 hk1;obtain⟨bb,bo,bq,bqc,rfl,-,t0,t1,t2,t3,hv⟩:=zcI HKB.o 0 hk2;rw[hka1] at s0 s1 s2 s3 hu;rw[hkb1] at t0 t1 t2 t3 hv;simp only[Nat.zero_mul,Nat.add_zero] at s0 s1 s2 s3 t0 t1 t2 t3;have hgk:=zbj g5 _ (List.getElem_mem hj);have hna1:NumI (zcL a):=OA.o.2.kids _ (by rw[ka];exact List.mem_cons_self ..);have hnb1:NumI (zcL b):=OB.o.2.kids _ (by rw[kb'];exact List.mem_cons_self ..);generalize f.kids[a.num.toNat]=g at *;generalize zcL a=ah at *;generalize zcL b=bh at *;have HIK:Hid (∀t,Calls Tryz.prog 188 #[.agg #[.string g.nm,.bool g.nl,.int .i64 g.k,.int .i64 g.wd,.int .i64 g.id,.int .i64 g.ix,.slice q g.kids.length c],.agg #[.bool ah.nl,.int .i64 ah.num,.string ah.tx,.slice aq ah.kids.length aqc],.agg #[.bool bh.nl,.int .i64 bh.num,.string bh.tx,.slice bq bh.kids.length bqc]] (W4.drewN t) (zaM (W4.drewN t) (.int .i64 (zbw m g ah bh)))):=zh (fun t=>
       HIH.o _ g ah bh (W4.drewN t) _ _ _ hgk (e3.below (zab HB4.o t)) (hu.below (zab HB4.o t)) (hv.below (zab HB4.o t)) ⟨oka,hna1⟩ ⟨okb,hnb1⟩)
      replace c0:=zaa HB4.o c0;replace c1:=zaa HB4.o c1;replace c2:=zaa HB4.o c2;replace c3:=zaa HB4.o c3;replace c4:=zaa HB4.o c4;replace c5:=zaa HB4.o c5;replace c6:=zaa HB4.o c6;replace s0:=zaa HB4.o s0;replace t0:=zaa HB4.o t0;replace s1:=zaa HB4.o s1;replace t1:=zaa HB4.o t1;replace s2:=zaa HB4.o s2;replace t2:=zaa HB4.o t2;replace s3:=zaa HB4.o s3;replace t3:=zaa HB4.o t3;have qn:(a.num != b.num)=false:=by simp[hne]
      have hl1x:(1:Int)<=(a.kids.length:Int):=by omega
      have hl2x:(1:Int)<=(b.kids.length:Int):=by omega
      have q19:(f.k == 19)=false:=by simp;omega
      have q20:(f.k == 20)=false:=by simp;omega
      have q10:(f.k == 10)=false:=by simp;omega
      have q11:(f.k == 11)=false:=by simp;omega
      have q12:(f.k == 12)=false:=by simp;omega
      have q13:(f.k == 13)=false:=by simp;omega
      have q14:(f.k == 14)=false:=by simp;omega
      have q18:(f.k == 18)=true:=by simp[hk]
      clear hk g1 g5 e3 oka okb hgk hna1 hnb1 hka1 hkb1 ka kb' hne hu hv
      go_in
      go_wp2_with fail;rw[<-HW4.o];obtain⟨x0,x1,x2,x3⟩:=rr4 A2.o.row;obtain⟨y0,y1,y2,y3⟩:=rr4 A3.o.row;have v0:=A4.o.row 0 _ rfl;have v4:=A4.o.row 4 _ rfl;refine Mix.region 16 (by kernel_rfl) rfl ?_;refine Mix.phase2 (ft:=2) (ph:=[0,1,2,3,4,5,6,7,8,9,10,11,12,13]) (by repeat constructor) (by kernel_rfl) ?_
      repeat (go_big_quiet_step (fail))
      refine wpQuiet_nil ?_;rintro _ ⟨nq,rfl⟩;refine Mix.alone (i:=14) (by kernel_rfl) rfl (by rfl) (fun K hK=>?_)
      go_step
      refine(HIK.o (1+nq)).mono ?_;rintro e W5 ⟨rfl,hb5⟩;have HB5:=zh (HB4.o.trans (((zab (Below.refl _ W4) (1+nq)).trans hb5).mono HB4.o.size));refine hK _ _ ?_;clear hK K hb5;refine Mix.phase2 (ft:=0) (ph:=[15]) (.cons rfl .nil) (by kernel_rfl) ?_
      repeat (go_big_quiet_step (fail))
      refine wpQuiet_nil ?_;rintro _ ⟨nr,rfl⟩;refine Mix.done (by kernel_rfl) ?_;go_wp2_with fail;rw[HE.o];go_ret;exact⟨rfl,zab HB5.o nr⟩
     ·have HE:=zh (show RES=zbZ a.num b.num by rw[HU.o,if_neg (by omega),if_neg (by omega),if_neg (by omega),if_neg (by omega),if_pos hk,if_pos hne]);have qn:(a.num != b.num)=true:=by simp[hne]
      have q19:(f.k == 19)=false:=by simp;omega
      have q20:(f.k == 20)=false:=by simp;omega
      have q10:(f.k == 10)=false:=by simp;omega
      have q11:(f.k == 11)=false:=by simp;omega
      have q12:(f.k == 12)=false:=by simp;omega
      have q13:(f.k == 13)=false:=by simp;omega
      have q14:(f.k == 14)=false:=by simp;omega
      have q18:(f.k == 18)=true:=by simp[hk]
      clear hk hne ka kb' oka okb
      go_in
      go_wp2_with fail;refine(zjd _ _ _).mono ?_;rintro e w' ⟨rfl,rfl⟩;go_wp2_with fail;rw[HE.o];go_ret;exact⟨rfl,by rw[<-HW4.o];exact HB4.o⟩
   ·as_aux_lemma=>
     have HE:=zh (show RES=zcp (fun i=>zbw m (zan f (if f.k=17 then i else 0))) 0 a.kids b.kids by rw[HU.o,if_neg (by omega),if_neg (by omega),if_neg (by omega),if_neg (by omega),if_neg (by omega),if_pos (by omega)]);obtain⟨-,-,la,-,oka⟩:=zeh OA.o.1 HAN.o (by omega);obtain⟨-,-,lb,-,okb⟩:=zeh OB.o.1 HBN.o (by omega);obtain⟨⟨g1,-,-,-⟩,g5⟩:=zbp.1 HG.o;obtain⟨N,hN⟩:=Fld.nm (min a.kids.length b.kids.length);have hNa:N<=a.kids.length:=by omega
     have hNb:N<=b.kids.length:=by omega
     have HNN:=zh hN;have HX:Hid (∀k,k<N->0<f.kids.length):=zh (fun k hk'=>by
      have:=zaW g1 (by omega:f.k=15\/f.k=16\/f.k=19\/f.k=20);omega)
     have HOK:Hid (∀k (ha:k<a.kids.length),zhx m (zan f (if f.k=17 then k else 0)) a.kids[k]):=zh (fun k ha=>⟨oka k ha,OA.o.2.kids _ (List.getElem_mem ha)⟩);have HOB:Hid (∀k (hb:k<b.kids.length),zhx m (zan f (if f.k=17 then k else 0)) b.kids[k]):=zh (fun k hb=>⟨okb k hb,OB.o.2.kids _ (List.getElem_mem hb)⟩);have HMIN:Hid (min (a.kids.length:Int) (b.kids.length:Int)=(N:Int)):=zh (by omega);have HG5:=zh g5;have q19:(f.k == 19)=false:=by simp;omega
     have q20:(f.k == 20)=false:=by simp;omega
     have q10:(f.k == 10)=false:=by simp;omega
     have q11:(f.k == 11)=false:=by simp;omega
     have q12:(f.k == 12)=false:=by simp;omega
     have q13:(f.k == 13)=false:=by simp;omega
     have q14:(f.k == 14)=false:=by simp;omega
     have q18:(f.k == 18)=false:=by simp;omega
     have q15:(f.k == 15)=true:=by simp[hk]
     have qk:(f.k == 17)=false:=by simp[hk]
     have HK:=zh (show ∀i:Nat,(if f.k=17 then i else 0)=0 from fun i=>if_neg (by omega));obtain⟨C,hCC⟩:∃C:Nat->Vl->Vl->Int,C=fun i=>zbw m (zan f (if f.k=17 then i else 0)):=⟨_,rfl⟩;rw[<-hCC] at HE;have HCC:=zh hCC;clear hk la lb oka okb g1 g5 hN hCC
     go_in
     go_wp2_with fail;rw[<-HW4.o,HMIN.o]
     go_loopw [106] (fun i wr=>∃k:Nat,k<=N/\i=.int .i64 k/\Hid (Below w.heap.size w wr)/\Hid (BoxN wr (w.heap.size+1) 39 [.bool false,.int .i64 a.num,.string a.tx,.slice ap a.kids.length ac])/\Hid (BoxN wr (w.heap.size+1+1) 39 [.bool false,.int .i64 b.num,.string b.tx,.slice bp b.kids.length bc])/\Hid (BoxN wr (w.heap.size+1+1+1) 24 [.int .i64 f.k,.int .i64 f.wd,.int .i64 f.id,.int .i64 f.ix,.slice fp f.kids.length fc])/\Hid (RES=zcp C k (a.kids.drop k) (b.kids.drop k))) (fun i _=>N-(intOf i).toNat)
     case atStart=>exact⟨0,by omega,rfl,HB4,A2,A3,A4,zh (by rw[List.drop_zero,List.drop_zero];exact HE.o)⟩
     case round=>
      obtain⟨k,hkN,rfl,HB,R2,R3,R4,HRK⟩:=hrel;obtain⟨x0,x1,x2,x3⟩:=rr4 R2.o.row;obtain⟨y0,y1,y2,y3⟩:=rr4 R3.o.row;have v0:=R4.o.row 0 _ rfl;have v4:=R4.o.row 4 _ rfl;by_cases hlt:k<N
      ·have hj:=HX.o k hlt;have hk1:k<a.kids.length:=by omega
       have hk2:k<b.kids.length:=by omega
       have hjI:((0:Nat):Int)<(f.kids.length:Int):=by omega
       have hk1I:(k:Int)<(a.kids.length:Int):=by omega
       have hk2I:(k:Int)<(b.kids.length:Int):=by omega
       obtain⟨kb,ko,q,c,rfl,e3,c0,c1,c2,c3,c4,c5,c6⟩:=HC.o.seven 0 hj;obtain⟨ab,ao,aq,aqc,rfl,-,s0,s1,s2,s3,hu⟩:=zcI HKA.o k hk1;obtain⟨bb,bo,bq,bqc,rfl,-,t0,t1,t2,t3,hv⟩:=zcI HKB.o k hk2
       try simp only[Nat.zero_mul,Nat.add_zero] at c0 c1 c2 c3 c4 c5 c6
       have hgk:=zbj HG5.o _ (List.getElem_mem hj);have hkid:zan f 0=f.kids[0]:=by unfold zan;rw[List.getElem?_eq_getElem hj];rfl
       have oka:=HOK.o k hk1;have okb:=HOB.o k hk2;rw[HK.o k,hkid] at oka okb;have HST:=zh (show RES=if zbw m f.kids[0] a.kids[k] b.kids[k]=0 then zcp C (k+1) (a.kids.drop (k+1)) (b.kids.drop (k+1)) else zbw m f.kids[0] a.kids[k] b.kids[k] by
        rw[HRK.o,zhH hk1 hk2,HCC.o];simp only[HK.o k,hkid])
       generalize f.kids[0]=g at *;generalize a.kids[k]=u at *;generalize b.kids[k]=v at *;have HIK:Hid (∀t,Calls Tryz.prog 188 #[.agg #[.string g.nm,.bool g.nl,.int .i64 g.k,.int .i64 g.wd,.int .i64 g.id,.int .i64 g.ix,.slice q g.kids.length c],.agg #[.bool u.nl,.int .i64 u.num,.string u.tx,.slice aq u.kids.length aqc],.agg #[.bool v.nl,.int .i64 v.num,.string v.tx,.slice bq v.kids.length bqc]] (wr.drewN t) (zaM (wr.drewN t) (.int .i64 (zbw m g u v)))):=zh (fun t=>
        HIH.o _ g u v (wr.drewN t) _ _ _ hgk (e3.below (zab HB.o t)) (hu.below (zab HB.o t)) (hv.below (zab HB.o t)) oka okb)
       replace c0:=zaa HB.o c0;replace c1:=zaa HB.o c1;replace c2:=zaa HB.o c2;replace c3:=zaa HB.o c3;replace c4:=zaa HB.o c4;replace c5:=zaa HB.o c5;replace c6:=zaa HB.o c6;replace s0:=zaa HB.o s0;replace t0:=zaa HB.o t0;replace s1:=zaa HB.o s1;replace t1:=zaa HB.o t1;replace s2:=zaa HB.o s2;replace t2:=zaa HB.o t2;replace s3:=zaa HB.o s3;replace t3:=zaa HB.o t3;clear hgk hkid oka okb e3 hu hv;go_wp2_with fail;refine Mix.region 17 (by kernel_rfl) rfl ?_;refine Mix.phase2 (ft:=2) (ph:=[0,1,2,3,4,5,6,7,8,9,10,11,12,13,14]) (by repeat constructor) (by kernel_rfl) ?_
       repeat (go_big_quiet_step (fail))
       refine wpQuiet_nil ?_;rintro _ ⟨nq,rfl⟩;refine Mix.alone (i:=15) (by kernel_rfl) rfl (by rfl) (fun K hK=>?_)
       go_step
       refine(HIK.o (1+nq)).mono ?_;rintro e W5 ⟨rfl,hb5⟩;have hb6:Below wr.heap.size wr W5:=(zab (Below.refl _ wr) (1+nq)).trans hb5;have HB6:=zh hb6;refine hK _ _ ?_;clear hK K hb5 hb6;refine Mix.phase2 (ft:=0) (ph:=[16]) (.cons rfl .nil) (by kernel_rfl) ?_
       repeat (go_big_quiet_step (fail))
       refine wpQuiet_nil ?_;rintro _ ⟨nr,rfl⟩;refine Mix.done (by kernel_rfl) ?_;obtain⟨o,ho⟩:=Fld.nm (zbw m g u v);rw[<-ho] at HST ⊢;have HB7:=zh (zab HB6.o nr);have HB8:=zh (HB.o.trans (HB7.o.mono HB.o.size));clear ho;by_cases hz:o=0
       ·have HE2:=zh (show RES=zcp C (k+1) (a.kids.drop (k+1)) (b.kids.drop (k+1)) by rw[HST.o,if_pos hz]);have qz:(o != 0)=false:=by simp[hz]
        clear hz;go_wp2_with fail;refine⟨⟨k+1,by omega,by go_num,HB8,zh (R2.o.below HB7.o R2.o.lt),zh (R3.o.below HB7.o R3.o.lt),zh (R4.o.below HB7.o R4.o.lt),HE2⟩,by simp[intOf];omega⟩
       ·have HE2:=zh (show RES=o by rw[HST.o,if_neg hz]);have qz:(o != 0)=true:=by simp[hz]
        clear hz;go_wp2_with fail;rw[HE2.o];go_ret;exact⟨rfl,HB8.o⟩
      ·have HE2:=zh (show RES=zbZ (a.kids.length:Int) (b.kids.length:Int) by rw[HRK.o];exact ziG (by have:=HNN.o;omega) k);go_wp2_with fail;refine(zgM _ _ _).mono ?_;rintro e w' ⟨rfl,rfl⟩;go_wp2_with fail;rw[HE2.o];go_ret;exact⟨rfl,HB.o⟩
   ·as_aux_lemma=>
     have HE:=zh (show RES=zcp (fun i=>zbw m (zan f (if f.k=17 then i else 0))) 0 a.kids b.kids by rw[HU.o,if_neg (by omega),if_neg (by omega),if_neg (by omega),if_neg (by omega),if_neg (by omega),if_pos (by omega)]);obtain⟨-,-,la,-,oka⟩:=zeh OA.o.1 HAN.o (by omega);obtain⟨-,-,lb,-,okb⟩:=zeh OB.o.1 HBN.o (by omega);obtain⟨⟨g1,-,-,-⟩,g5⟩:=zbp.1 HG.o;obtain⟨N,hN⟩:=Fld.nm (min a.kids.length b.kids.length);have hNa:N<=a.kids.length:=by omega
     have hNb:N<=b.kids.length:=by omega
     have HNN:=zh hN;have HX:Hid (∀k,k<N->0<f.kids.length):=zh (fun k hk'=>by
      have:=zaW g1 (by omega:f.k=15\/f.k=16\/f.k=19\/f.k=20);omega)
     have HOK:Hid (∀k (ha:k<a.kids.length),zhx m (zan f (if f.k=17 then k else 0)) a.kids[k]):=zh (fun k ha=>⟨oka k ha,OA.o.2.kids _ (List.getElem_mem ha)⟩);have HOB:Hid (∀k (hb:k<b.kids.length),zhx m (zan f (if f.k=17 then k else 0)) b.kids[k]):=zh (fun k hb=>⟨okb k hb,OB.o.2.kids _ (List.getElem_mem hb)⟩);have HMIN:Hid (min (a.kids.length:Int) (b.kids.length:Int)=(N:Int)):=zh (by omega);have HG5:=zh g5;have q19:(f.k == 19)=false:=by simp;omega
     have q20:(f.k == 20)=false:=by simp;omega
     have q10:(f.k == 10)=false:=by simp;omega
     have q11:(f.k == 11)=false:=by simp;omega
     have q12:(f.k == 12)=false:=by simp;omega
     have q13:(f.k == 13)=false:=by simp;omega
     have q14:(f.k == 14)=false:=by simp;omega
     have q18:(f.k == 18)=false:=by simp;omega
     have q15:(f.k == 15)=false:=by simp;omega
     have q16:(f.k == 16)=true:=by simp[hk]
     have qk:(f.k == 17)=false:=by simp[hk]
     have HK:=zh (show ∀i:Nat,(if f.k=17 then i else 0)=0 from fun i=>if_neg (by omega));obtain⟨C,hCC⟩:∃C:Nat->Vl->Vl->Int,C=fun i=>zbw m (zan f (if f.k=17 then i else 0)):=⟨_,rfl⟩;rw[<-hCC] at HE;have HCC:=zh hCC;clear hk la lb oka okb g1 g5 hN hCC
     go_in
     go_wp2_with fail;rw[<-HW4.o,HMIN.o]
     go_loopw [106] (fun i wr=>∃k:Nat,k<=N/\i=.int .i64 k/\Hid (Below w.heap.size w wr)/\Hid (BoxN wr (w.heap.size+1) 39 [.bool false,.int .i64 a.num,.string a.tx,.slice ap a.kids.length ac])/\Hid (BoxN wr (w.heap.size+1+1) 39 [.bool false,.int .i64 b.num,.string b.tx,.slice bp b.kids.length bc])/\Hid (BoxN wr (w.heap.size+1+1+1) 24 [.int .i64 f.k,.int .i64 f.wd,.int .i64 f.id,.int .i64 f.ix,.slice fp f.kids.length fc])/\Hid (RES=zcp C k (a.kids.drop k) (b.kids.drop k))) (fun i _=>N-(intOf i).toNat)
     case atStart=>exact⟨0,by omega,rfl,HB4,A2,A3,A4,zh (by rw[List.drop_zero,List.drop_zero];exact HE.o)⟩
     case round=>
      obtain⟨k,hkN,rfl,HB,R2,R3,R4,HRK⟩:=hrel;obtain⟨x0,x1,x2,x3⟩:=rr4 R2.o.row;obtain⟨y0,y1,y2,y3⟩:=rr4 R3.o.row;have v0:=R4.o.row 0 _ rfl;have v4:=R4.o.row 4 _ rfl;by_cases hlt:k<N
      ·have hj:=HX.o k hlt;have hk1:k<a.kids.length:=by omega
       have hk2:k<b.kids.length:=by omega
       have hjI:((0:Nat):Int)<(f.kids.length:Int):=by omega
       have hk1I:(k:Int)<(a.kids.length:Int):=by omega
       have hk2I:(k:Int)<(b.kids.length:Int):=by omega
       obtain⟨kb,ko,q,c,rfl,e3,c0,c1,c2,c3,c4,c5,c6⟩:=HC.o.seven 0 hj;obtain⟨ab,ao,aq,aqc,rfl,-,s0,s1,s2,s3,hu⟩:=zcI HKA.o k hk1;obtain⟨bb,bo,bq,bqc,rfl,-,t0,t1,t2,t3,hv⟩:=zcI HKB.o k hk2
       try simp only[Nat.zero_mul,Nat.add_zero] at c0 c1 c2 c3 c4 c5 c6
       have hgk:=zbj HG5.o _ (List.getElem_mem hj);have hkid:zan f 0=f.kids[0]:=by unfold zan;rw[List.getElem?_eq_getElem hj];rfl
       have oka:=HOK.o k hk1;have okb:=HOB.o k hk2;rw[HK.o k,hkid] at oka okb;have HST:=zh (show RES=if zbw m f.kids[0] a.kids[k] b.kids[k]=0 then zcp C (k+1) (a.kids.drop (k+1)) (b.kids.drop (k+1)) else zbw m f.kids[0] a.kids[k] b.kids[k] by
        rw[HRK.o,zhH hk1 hk2,HCC.o];simp only[HK.o k,hkid])
       generalize f.kids[0]=g at *;generalize a.kids[k]=u at *;generalize b.kids[k]=v at *;have HIK:Hid (∀t,Calls Tryz.prog 188 #[.agg #[.string g.nm,.bool g.nl,.int .i64 g.k,.int .i64 g.wd,.int .i64 g.id,.int .i64 g.ix,.slice q g.kids.length c],.agg #[.bool u.nl,.int .i64 u.num,.string u.tx,.slice aq u.kids.length aqc],.agg #[.bool v.nl,.int .i64 v.num,.string v.tx,.slice bq v.kids.length bqc]] (wr.drewN t) (zaM (wr.drewN t) (.int .i64 (zbw m g u v)))):=zh (fun t=>
        HIH.o _ g u v (wr.drewN t) _ _ _ hgk (e3.below (zab HB.o t)) (hu.below (zab HB.o t)) (hv.below (zab HB.o t)) oka okb)
       replace c0:=zaa HB.o c0;replace c1:=zaa HB.o c1;replace c2:=zaa HB.o c2;replace c3:=zaa HB.o c3;replace c4:=zaa HB.o c4;replace c5:=zaa HB.o c5;replace c6:=zaa HB.o c6;replace s0:=zaa HB.o s0;replace t0:=zaa HB.o t0;replace s1:=zaa HB.o s1;replace t1:=zaa HB.o t1;replace s2:=zaa HB.o s2;replace t2:=zaa HB.o t2;replace s3:=zaa HB.o s3;replace t3:=zaa HB.o t3;clear hgk hkid oka okb e3 hu hv;go_wp2_with fail;refine Mix.region 17 (by kernel_rfl) rfl ?_;refine Mix.phase2 (ft:=2) (ph:=[0,1,2,3,4,5,6,7,8,9,10,11,12,13,14]) (by repeat constructor) (by kernel_rfl) ?_
       repeat (go_big_quiet_step (fail))
       refine wpQuiet_nil ?_;rintro _ ⟨nq,rfl⟩;refine Mix.alone (i:=15) (by kernel_rfl) rfl (by rfl) (fun K hK=>?_)
       go_step
       refine(HIK.o (1+nq)).mono ?_;rintro e W5 ⟨rfl,hb5⟩;have hb6:Below wr.heap.size wr W5:=(zab (Below.refl _ wr) (1+nq)).trans hb5;have HB6:=zh hb6;refine hK _ _ ?_;clear hK K hb5 hb6;refine Mix.phase2 (ft:=0) (ph:=[16]) (.cons rfl .nil) (by kernel_rfl) ?_
       repeat (go_big_quiet_step (fail))
       refine wpQuiet_nil ?_;rintro _ ⟨nr,rfl⟩;refine Mix.done (by kernel_rfl) ?_;obtain⟨o,ho⟩:=Fld.nm (zbw m g u v);rw[<-ho] at HST ⊢;have HB7:=zh (zab HB6.o nr);have HB8:=zh (HB.o.trans (HB7.o.mono HB.o.size));clear ho;by_cases hz:o=0
       ·have HE2:=zh (show RES=zcp C (k+1) (a.kids.drop (k+1)) (b.kids.drop (k+1)) by rw[HST.o,if_pos hz]);have qz:(o != 0)=false:=by simp[hz]
        clear hz;go_wp2_with fail;refine⟨⟨k+1,by omega,by go_num,HB8,zh (R2.o.below HB7.o R2.o.lt),zh (R3.o.below HB7.o R3.o.lt),zh (R4.o.below HB7.o R4.o.lt),HE2⟩,by simp[intOf];omega⟩
       ·have HE2:=zh (show RES=o by rw[HST.o,if_neg hz]);have qz:(o != 0)=true:=by simp[hz]
        clear hz;go_wp2_with fail;rw[HE2.o];go_ret;exact⟨rfl,HB8.o⟩
      ·have HE2:=zh (show RES=zbZ (a.kids.length:Int) (b.kids.length:Int) by rw[HRK.o];exact ziG (by have:=HNN.o;omega) k);go_wp2_with fail;refine(zgM _ _ _).mono ?_;rintro e w' ⟨rfl,rfl⟩;go_wp2_with fail;rw[HE2.o];go_ret;exact⟨rfl,HB.o⟩
   ·as_aux_lemma=>
     have HE:=zh (show RES=zcp (fun i=>zbw m (zan f (if f.k=17 then i else 0))) 0 a.kids b.kids by rw[HU.o,if_neg (by omega),if_neg (by omega),if_neg (by omega),if_neg (by omega),if_neg (by omega),if_pos (by omega)]);obtain⟨-,-,la,-,oka⟩:=zeh OA.o.1 HAN.o (by omega);obtain⟨-,-,lb,-,okb⟩:=zeh OB.o.1 HBN.o (by omega);obtain⟨⟨g1,-,-,-⟩,g5⟩:=zbp.1 HG.o;obtain⟨N,hN⟩:=Fld.nm (min a.kids.length b.kids.length);have hNa:N<=a.kids.length:=by omega
     have hNb:N<=b.kids.length:=by omega
     have HNN:=zh hN;have HX:Hid (∀k,k<N->k<f.kids.length):=zh (fun k hk'=>by
      have:=la hk;omega)
     have HOK:Hid (∀k (ha:k<a.kids.length),zhx m (zan f (if f.k=17 then k else 0)) a.kids[k]):=zh (fun k ha=>⟨oka k ha,OA.o.2.kids _ (List.getElem_mem ha)⟩);have HOB:Hid (∀k (hb:k<b.kids.length),zhx m (zan f (if f.k=17 then k else 0)) b.kids[k]):=zh (fun k hb=>⟨okb k hb,OB.o.2.kids _ (List.getElem_mem hb)⟩);have HMIN:Hid (min (a.kids.length:Int) (b.kids.length:Int)=(N:Int)):=zh (by omega);have HG5:=zh g5;have q19:(f.k == 19)=false:=by simp;omega
     have q20:(f.k == 20)=false:=by simp;omega
     have q10:(f.k == 10)=false:=by simp;omega
     have q11:(f.k == 11)=false:=by simp;omega
     have q12:(f.k == 12)=false:=by simp;omega
     have q13:(f.k == 13)=false:=by simp;omega
     have q14:(f.k == 14)=false:=by simp;omega
     have q18:(f.k == 18)=false:=by simp;omega
     have q15:(f.k == 15)=false:=by simp;omega
     have q16:(f.k == 16)=false:=by simp;omega
     have q17:(f.k == 17)=true:=by simp[hk]
     have HK:=zh (show ∀i:Nat,(if f.k=17 then i else 0)=i from fun i=>if_pos hk);obtain⟨C,hCC⟩:∃C:Nat->Vl->Vl->Int,C=fun i=>zbw m (zan f (if f.k=17 then i else 0)):=⟨_,rfl⟩;rw[<-hCC] at HE;have HCC:=zh hCC;clear hk la lb oka okb g1 g5 hN hCC
     go_in
     go_wp2_with fail;rw[<-HW4.o,HMIN.o]
     go_loopw [106] (fun i wr=>∃k:Nat,k<=N/\i=.int .i64 k/\Hid (Below w.heap.size w wr)/\Hid (BoxN wr (w.heap.size+1) 39 [.bool false,.int .i64 a.num,.string a.tx,.slice ap a.kids.length ac])/\Hid (BoxN wr (w.heap.size+1+1) 39 [.bool false,.int .i64 b.num,.string b.tx,.slice bp b.kids.length bc])/\Hid (BoxN wr (w.heap.size+1+1+1) 24 [.int .i64 f.k,.int .i64 f.wd,.int .i64 f.id,.int .i64 f.ix,.slice fp f.kids.length fc])/\Hid (RES=zcp C k (a.kids.drop k) (b.kids.drop k))) (fun i _=>N-(intOf i).toNat)
     case atStart=>exact⟨0,by omega,rfl,HB4,A2,A3,A4,zh (by rw[List.drop_zero,List.drop_zero];exact HE.o)⟩
     case round=>
      obtain⟨k,hkN,rfl,HB,R2,R3,R4,HRK⟩:=hrel;obtain⟨x0,x1,x2,x3⟩:=rr4 R2.o.row;obtain⟨y0,y1,y2,y3⟩:=rr4 R3.o.row;have v0:=R4.o.row 0 _ rfl;have v4:=R4.o.row 4 _ rfl;by_cases hlt:k<N
      ·have hj:=HX.o k hlt;have hk1:k<a.kids.length:=by omega
       have hk2:k<b.kids.length:=by omega
       have hjI:((k:Nat):Int)<(f.kids.length:Int):=by omega
       have hk1I:(k:Int)<(a.kids.length:Int):=by omega
       have hk2I:(k:Int)<(b.kids.length:Int):=by omega
       obtain⟨kb,ko,q,c,rfl,e3,c0,c1,c2,c3,c4,c5,c6⟩:=HC.o.seven k hj;obtain⟨ab,ao,aq,aqc,rfl,-,s0,s1,s2,s3,hu⟩:=zcI HKA.o k hk1;obtain⟨bb,bo,bq,bqc,rfl,-,t0,t1,t2,t3,hv⟩:=zcI HKB.o k hk2
       try simp only[Nat.zero_mul,Nat.add_zero] at c0 c1 c2 c3 c4 c5 c6
       have hgk:=zbj HG5.o _ (List.getElem_mem hj);have hkid:zan f k=f.kids[k]:=by unfold zan;rw[List.getElem?_eq_getElem hj];rfl
       have oka:=HOK.o k hk1;have okb:=HOB.o k hk2;rw[HK.o k,hkid] at oka okb;have HST:=zh (show RES=if zbw m f.kids[k] a.kids[k] b.kids[k]=0 then zcp C (k+1) (a.kids.drop (k+1)) (b.kids.drop (k+1)) else zbw m f.kids[k] a.kids[k] b.kids[k] by
        rw[HRK.o,zhH hk1 hk2,HCC.o];simp only[HK.o k,hkid])
       generalize f.kids[k]=g at *;generalize a.kids[k]=u at *;generalize b.kids[k]=v at *;have HIK:Hid (∀t,Calls Tryz.prog 188 #[.agg #[.string g.nm,.bool g.nl,.int .i64 g.k,.int .i64 g.wd,.int .i64 g.id,.int .i64 g.ix,.slice q g.kids.length c],.agg #[.bool u.nl,.int .i64 u.num,.string u.tx,.slice aq u.kids.length aqc],.agg #[.bool v.nl,.int .i64 v.num,.string v.tx,.slice bq v.kids.length bqc]] (wr.drewN t) (zaM (wr.drewN t) (.int .i64 (zbw m g u v)))):=zh (fun t=>
        HIH.o _ g u v (wr.drewN t) _ _ _ hgk (e3.below (zab HB.o t)) (hu.below (zab HB.o t)) (hv.below (zab HB.o t)) oka okb)
       replace c0:=zaa HB.o c0;replace c1:=zaa HB.o c1;replace c2:=zaa HB.o c2;replace c3:=zaa HB.o c3;replace c4:=zaa HB.o c4;replace c5:=zaa HB.o c5;replace c6:=zaa HB.o c6;replace s0:=zaa HB.o s0;replace t0:=zaa HB.o t0;replace s1:=zaa HB.o s1;replace t1:=zaa HB.o t1;replace s2:=zaa HB.o s2;replace t2:=zaa HB.o t2;replace s3:=zaa HB.o s3;replace t3:=zaa HB.o t3;clear hgk hkid oka okb e3 hu hv;go_wp2_with fail;refine Mix.region 17 (by kernel_rfl) rfl ?_;refine Mix.phase2 (ft:=2) (ph:=[0,1,2,3,4,5,6,7,8,9,10,11,12,13,14]) (by repeat constructor) (by kernel_rfl) ?_
       repeat (go_big_quiet_step (fail))
       refine wpQuiet_nil ?_;rintro _ ⟨nq,rfl⟩;refine Mix.alone (i:=15) (by kernel_rfl) rfl (by rfl) (fun K hK=>?_)
       go_step
       refine(HIK.o (1+nq)).mono ?_;rintro e W5 ⟨rfl,hb5⟩;have hb6:Below wr.heap.size wr W5:=(zab (Below.refl _ wr) (1+nq)).trans hb5;have HB6:=zh hb6;refine hK _ _ ?_;clear hK K hb5 hb6;refine Mix.phase2 (ft:=0) (ph:=[16]) (.cons rfl .nil) (by kernel_rfl) ?_
       repeat (go_big_quiet_step (fail))
       refine wpQuiet_nil ?_;rintro _ ⟨nr,rfl⟩;refine Mix.done (by kernel_rfl) ?_;obtain⟨o,ho⟩:=Fld.nm (zbw m g u v);rw[<-ho] at HST ⊢;have HB7:=zh (zab HB6.o nr);have HB8:=zh (HB.o.trans (HB7.o.mono HB.o.size));clear ho;by_cases hz:o=0
       ·have HE2:=zh (show RES=zcp C (k+1) (a.kids.drop (k+1)) (b.kids.drop (k+1)) by rw[HST.o,if_pos hz]);have qz:(o != 0)=false:=by simp[hz]
        clear hz;go_wp2_with fail;refine⟨⟨k+1,by omega,by go_num,HB8,zh (R2.o.below HB7.o R2.o.lt),zh (R3.o.below HB7.o R3.o.lt),zh (R4.o.below HB7.o R4.o.lt),HE2⟩,by simp[intOf];omega⟩
       ·have HE2:=zh (show RES=o by rw[HST.o,if_neg hz]);have qz:(o != 0)=true:=by simp[hz]
        clear hz;go_wp2_with fail;rw[HE2.o];go_ret;exact⟨rfl,HB8.o⟩
      ·have HE2:=zh (show RES=zbZ (a.kids.length:Int) (b.kids.length:Int) by rw[HRK.o];exact ziG (by have:=HNN.o;omega) k);go_wp2_with fail;refine(zgM _ _ _).mono ?_;rintro e w' ⟨rfl,rfl⟩;go_wp2_with fail;rw[HE2.o];go_ret;exact⟨rfl,HB.o⟩
   ·as_aux_lemma=>
     have HE:=zh (show RES=zbZ a.num b.num by rw[HU.o,if_neg (by omega),if_neg (by omega),if_neg (by omega),if_neg (by omega),if_neg (by omega),if_neg (by omega)]);have q19:(f.k == 19)=false:=by simp;omega
     have q20:(f.k == 20)=false:=by simp;omega
     have q10:(f.k == 10)=false:=by simp;omega
     have q11:(f.k == 11)=false:=by simp;omega
     have q12:(f.k == 12)=false:=by simp;omega
     have q13:(f.k == 13)=false:=by simp;omega
     have q14:(f.k == 14)=false:=by simp;omega
     have q18:(f.k == 18)=false:=by simp;omega
     have q15:(f.k == 15)=false:=by simp;omega
     have q16:(f.k == 16)=false:=by simp;omega
     have q17:(f.k == 17)=false:=by simp;omega
     clear hk
     go_in
     go_wp2_with fail;refine(zjd _ _ _).mono ?_;rintro e w' ⟨rfl,rfl⟩;go_wp2_with fail;rw[HE.o];go_ret;exact⟨rfl,by rw[<-HW4.o];exact HB4.o⟩
theorem zrg:∀m,zp2 m
 | 0=>fun inD f a b w fs cs ds _ _ _ _ oa _=>by have:=oa.1;rw[okN] at this;cases this
 | m+1=>znJ m (zrg m)
end Go.Fld
