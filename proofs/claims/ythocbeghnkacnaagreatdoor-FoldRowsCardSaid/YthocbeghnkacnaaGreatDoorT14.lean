import Derived.Test.YthocbeghnkacnaaGreatDoorT13
import Derived.Deep.AppendSrc
set_option linter.unusedVariables false
set_option linter.unusedSimpArgs false
set_option linter.unnecessarySimpa false
set_option maxRecDepth 100000
set_option maxHeartbeats 16000000
namespace Go.Fld
open Go Go.RowKit Go.Proofs Go.ChangeShapes Go.WideShapes Go.ChangeAt Go.Shelf
theorem zit {P:Program}(w:World)(t tx ty e:TypeId)(i:TypeInfo)(z:Value)(size bytes:Nat)(ht:P.underlying t=some (.slice e))(hi:P.info? e=some i)(hz:i.zero=some z)
  (hsize:i.size=size) (hby:i.bytes=bytes) (hzs:z.cells.size=size)
  (p:Option Addr) (n:Nat) (xs:List Value) (hr:Src P size t (.slice p n n) n xs w) (x:Value) (m:Nat) (news:List Value) (hsrc:Src P size tx x m news w) (hm:0<m)
  (h63:n+m<=maxLen) (hbytes:(n+m)*bytes<=140737488355328) :
  ∃cap' w',(Builtin.append_ #[t,tx] ty #[.slice p n n,x]).run P w=.ok (.slice (some ⟨w.heap.size,0,none⟩) (n+m) cap') w'/\w'.ownsRow 0 e size (.slice (some ⟨w.heap.size,0,none⟩) (n+m) cap') (n+m) (xs ++ news)/\Below w.heap.size w w':=by
 subst hsize;subst hby;have hsmall:n+m<=9223372036854775807:=by simp only[maxLen] at h63;omega
 have hlen:(xs ++ news).length=(n+m)*i.size:=by rw[List.length_append,hr.newsLen,hsrc.newsLen,Nat.add_mul]
 have hold:=hr.cellsD;have hrun:=run_append_grow_src (P:=P) w t tx ty e i z ht hi hz p n n xs hold x m news hsrc (by omega) (by omega) (growslice_fits (by omega) hbytes);have hge:=grownCap_ge w (n+m) n e;have hcm:grownCap w (n+m) n e<=maxLen:=grownCap_le_maxLen w (n+m) n e h63;refine⟨_,_,hrun,⟨hlen,.inr ⟨w.heap.size,_,_,rfl,Nat.zero_le _,heap_alloc_new w.drew _,hge,hcm,?_,?_⟩⟩,⟨rfl,rfl,rfl,by simp,fun k hk=>Below.heap_alloc w.drew _ k hk⟩⟩
 ·simp only[Array.size_append,List.size_toArray,size_zeroCells,hzs,hlen,<-Nat.add_mul]
  congr 1
  omega
 ·simp only[Array.toList_append];rw[<-hlen];exact List.take_left
theorem zg4 {P:Program}{w:World}{ops:Array Oper}{rest:List Oper}{o:Oper}{a:Act}{Q:Exit->Act->World->Prop}(hgd:o.guard=none)(s x:Operand)(t tx:TypeId)
  (ho:o.op=.call { callee:=.builtin .append,args:=#[s,x],argTypes:=#[t,tx] })
  (e:TypeId) (i:TypeInfo) (z:Value) (size bytes:Nat) (ht:P.underlying t=some (.slice e)) (hi:P.info? e=some i) (hz:i.zero=some z)
  (hsize:i.size=size) (hby:i.bytes=bytes) (hzs:z.cells.size=size)
  (p:Option Addr) (n:Nat) (xs:List Value) (hs:a.eval s=.slice p n n) (hr:Src P size t (.slice p n n) n xs w)
  (vx:Value) (m:Nat) (news:List Value) (hx:a.eval x=vx) (hsrc:Src P size tx vx m news w) (hm:0<m)
  (h63:n+m<=maxLen) (hbytes:(n+m)*bytes<=140737488355328)
  (h:∀cap' w',w'.ownsRow 0 e size (.slice (some ⟨w.heap.size,0,none⟩) (n+m) cap') (n+m) (xs ++ news)->Below w.heap.size w w'->wpList P ops Q rest (a.put o.dst (.slice (some ⟨w.heap.size,0,none⟩) (n+m) cap')) w'):wpList P ops Q (o :: rest) a w:=by
 refine wpList_plain hgd fun K hK=>?_;obtain⟨cap',w',hr,h2,h3⟩:=zit (P:=P) w t tx o.type e i z size bytes ht hi hz hsize hby hzs p n xs hr vx m news hsrc hm h63 hbytes;unfold Oper.wp execOp;simp only[ho,resolve,invoke,builtin,Sem.run_bind,Sem.run_pure,Result.andThen_ok,List.map_toArray,List.map_cons,List.map_nil,hs,hx,hr];exact hK _ _ (h cap' w' h2 h3)
def zcY (k:Nat):Int:=if k=1\/k=20\/k=0 then 0 else if k=12\/k=13 then 3 else if k=16\/k=17 then 1 else 2
def SaysW (w:World):Prop:=∀k:Nat,k<=20->w.cell? ⟨0,k*4+1,none⟩=some (.int .i64 (zew k))/\w.cell? ⟨0,k*4+2,none⟩=some (.int .i64 (zcY k))
theorem SaysW.below {w w':World}(h:SaysW w)(hb:Below w.heap.size w w'):SaysW w':=fun k hk=>⟨zaa hb (h k hk).1,zaa hb (h k hk).2⟩
theorem zaE {f:Fd}(h:zdh f=true):zaU f=true/\okL f.kids:=by
 have h1:zbh (zb1 f)=0:=by unfold zdh at h;simpa using h
 have h2:zfa [zb1 f]=0:=h1;have h3:=(zjQ h2).1;simp only[okL] at h3;have h4:=zgi h3.1;refine⟨?_,h4.2.2⟩;obtain⟨a,ha⟩:=(zcn (zbR 63) 1 [zb1 f] false [zb1 f] 0 (zb1 f) (by simp)).1;obtain⟨_,_,h5⟩:=zdP (show zbm 0 [] (zaY (zbR 63) 1 [zb1 f] false 0 [zb1 f])=0 from h2) _ ha;exact(zdo h5).2.2
theorem zhb {f:Fd}(h:zaU f=true):1<=f.k/\f.k<=20:=by
 unfold zaU at h;simp only[Bool.and_eq_true,decide_eq_true_eq] at h;exact h.1
theorem zoe {f:Fd}(h:zaU f=true)(hk:f.k=20):f.kids.length=1:=by
 unfold zaU at h;simp only[Bool.and_eq_true,decide_eq_true_eq] at h;have h1:=h.2.2.2.1;have h2:=h.2.2.2.2;unfold zbE at h1;unfold zbH at h2;simp[hk] at h1 h2;omega
theorem zhc {f:Fd}(h:zaU f=true)(hk:f.k=19):3<=f.ix/\f.ix<=10:=by
 unfold zaU at h;simp only[Bool.and_eq_true,decide_eq_true_eq] at h;have h1:=h.2.2.1;unfold zb4 at h1;simp[hk] at h1;omega
def zbY (f:Fd):Nat:=if zdh f=false\/f.k=19 then 0 else if f.k=20 then 1+f.kids.length else f.kids.length
def zqu (w:World)(n:Nat)(e:Ending)(w':World):Prop:=∃p c,e=.returned (.slice p n c)/\(n<=c/\c<=maxLen)/\Below w.heap.size w w'
theorem zhd {w:World}{f:Fd}{p:Option Addr}{c:Nat}(hf:FdAt w f (f7 f p c))(hS:SaysAt w) :
  Calls Tryz.prog 98 #[.agg #[.int .i64 f.k,.int .i64 f.wd,.int .i64 f.id,.int .i64 f.ix,.slice p f.kids.length c]] w (zqu w (zbY f)):=by
 have HF:=zh hf;have HS:=zh hS;obtain⟨_,_,e,hL,-⟩:=hf.shape;cases e;have HL:=zh hL;clear hf hS hL;obtain⟨i1,z1,hi1,hz1,hzc1,hsz1,hby1⟩:=zet;obtain⟨W,hW,a1,hBW⟩:=zao w 24 [.int .i64 f.k,.int .i64 f.wd,.int .i64 f.id,.int .i64 f.ix,.slice p f.kids.length c];have A1:=zh a1;have HBW:=zh hBW;have HW:=zh hW;clear a1 hBW hW
 go_in
 go_wp2_with fail;rw[<-HW.o];clear HW;refine(zgl (HF.o.below HBW.o) (HS.o.below HBW.o)).mono ?_;rintro e W2 ⟨rfl,hb2⟩;have HB2:=zh (HBW.o.trans (hb2.mono HBW.o.size));have B1:=A1.o.below hb2 A1.o.lt;have p0:=B1.row 0 _ rfl;have p4:=B1.row 4 _ rfl;have hl:=B1.lt;have BB:=zh B1;clear hb2 B1;have HPN:=zh (show zbY f=if zdh f=false\/f.k=19 then 0 else if f.k=20 then 1+f.kids.length else f.kids.length from rfl);cases hm:zdh f with
 | false=>
  have HE:=zh (show zbY f=0 by rw[HPN.o,if_pos (.inl hm)]);clear hm;go_wp2_with fail;rw[HE.o];go_ret;exact⟨none,0,rfl,⟨Nat.le_refl _,Nat.zero_le _⟩,HB2.o⟩
 | true=>
  have HM:=zh (zaE hm);cases q19:(f.k == 19) with
  | true=>
   have HE:=zh (show zbY f=0 by rw[HPN.o,if_pos (.inr (by simpa using q19))]);clear hm;go_wp2_with fail;rw[HE.o];go_ret;exact⟨none,0,rfl,⟨Nat.le_refl _,Nat.zero_le _⟩,HB2.o⟩
  | false=>
   have HE:=zh (show zbY f=if f.k=20 then 1+f.kids.length else f.kids.length by rw[HPN.o,if_neg (by rw[hm];simpa using q19)]);clear hm;go_wp2_with fail;refine(zju (HL.o.below HB2.o) HM.o.2 (zkL HM.o.1)).mono ?_;rintro e W3 ⟨q,d,rfl,hr,hfd,hb3⟩;have HB3:=zh (HB2.o.trans (hb3.mono HB2.o.size));have HFD:=zh hfd;have HR:=zh hr;have B1:=BB.o.below hb3 BB.o.lt;clear p0 p4 hl hb3 hfd;have p0:=B1.row 0 _ rfl;have hl:=B1.lt;clear B1;obtain⟨hr1,hr2⟩:=hr;cases q20:(f.k == 20) with
   | false=>
    have e20:f.k≠20:=by simpa using q20
    rw[if_neg e20] at HE;clear e20;go_wp2_with fail;rw[HE.o];go_ret;exact⟨q,d,rfl,HR.o,HB3.o⟩
   | true=>
    have e20:f.k=20:=by simpa using q20
    rw[if_pos e20] at HE;have hone:=zoe HM.o.1 e20;have HON:=zh hone;rw[hone] at HE;clear e20 hone;have hfl:=FdsS.at HFD.o;obtain⟨b0,o0,_,_,rfl,_⟩:=hfl.seven 0 (by rw[HON.o];decide);obtain⟨css,c1,c2,c3,c4⟩:=zjV hfl;have hlen:(css.flatMap id).length=f.kids.length*7:=by
     rw[<-c1];have:∀l:List (List Value),(∀cs ∈ l,cs.length=7)->(l.flatMap id).length=l.length*7:=fun l=>by
      induction l with
      | nil=>intro _;rfl
      | cons a l ih=>intro h;simp only[List.flatMap_cons,List.length_append,List.length_cons,id];rw[h a (by simp),ih (fun cs hcs=>h cs (by simp[hcs]))];omega
     exact this css (fun cs hcs=>(c2 cs hcs).1)
    have HC:=zh (And.intro c2 (And.intro hlen c4));have HV:=zh (show Below W3.heap.size W3 (W3.alloc (.cells #[.string ⟨#[101,110,100,115]⟩,.bool false,.int .i64 5,.int .i64 0,.int .i64 0,.int .i64 0,.slice none 0 0] 26)) from(Below.refl _ W3).alloc (Nat.le_refl _) _);have HZ:=zh (BoxN.new W3 26 [.string ⟨#[101,110,100,115]⟩,.bool false,.int .i64 5,.int .i64 0,.int .i64 0,.int .i64 0,.slice none 0 0]);have hk1:f.kids.length<=1:=by have:=HON.o;omega
    have hk0:0<f.kids.length:=by have:=HON.o;omega
    clear hfl c1 c2 c3 c4 hlen;go_wp2_with (at_builtin;refine zg4 rfl _ _ 22 22 rfl 26 i1 z1 7 80 zfH hi1 hz1 hsz1 hby1 hzc1 (some ⟨W3.heap.size,0,none⟩) 1 [.string ⟨#[101,110,100,115]⟩,.bool false,.int .i64 5,.int .i64 0,.int .i64 0,.int .i64 0,.slice none 0 0] rfl (Src.ofSlice _ zfH ⟨W3.heap.size,0,none⟩ 1 1 _ rfl (World.news_of_block HZ.o) (fun u hu=>by simp at hu;rcases hu with rfl|rfl|rfl|rfl|rfl|rfl|rfl <;> rfl)) (.slice (some ⟨b0,o0,none⟩) f.kids.length _) f.kids.length (css.flatMap id) rfl (Src.ofSlice _ zfH ⟨b0,o0,none⟩ f.kids.length _ _ HC.o.2.1 (fun j u hu=>by rw[Open.add_plain];have h:=HC.o.2.2 j u hu;rw[Nat.add_zero] at h;exact zaa HV.o h) (fun u hu=>by obtain⟨cs,h1,h2⟩:=List.mem_flatMap.1 hu;exact(HC.o.1 cs h1).2 u h2)) hk0 (by unfold maxLen;omega) (by omega) ?_;intro cap3 w3 hown3 hb3);rw[HE.o];have hroom:1+f.kids.length<=cap3/\cap3<=maxLen:=by
     rcases hown3.2 with⟨e,hn⟩|⟨g,c,cur,e,_,_,h1,h2,_⟩
     ·simp at e
     ·cases e;exact⟨h1,h2⟩
    rw[HON.o] at hroom;have hon:=HON.o;go_ret;refine⟨some ⟨W3.heap.size+1,0,none⟩,cap3,?_,hroom,(HB3.o.trans (HV.o.mono HB3.o.size)).trans (hb3.mono (HB3.o.trans (HV.o.mono HB3.o.size)).size)⟩;simp[hon]
def zbK (f:Fd):Int:=if zdh f=false then 0 else if f.k=14 then f.wd else if f.k=19 then zew f.ix else zew f.k
theorem zkS {w:World}{f:Fd}{p:Option Addr}{c:Nat}(hf:FdAt w f (f7 f p c))(hS:SaysAt w)(hW:SaysW w) :
  Calls Tryz.prog 100 #[.agg #[.int .i64 f.k,.int .i64 f.wd,.int .i64 f.id,.int .i64 f.ix,.slice p f.kids.length c]] w (zga w (zbK f)):=by
 have HF:=zh hf;have HS:=zh hS;have HSW:=zh hW;clear hf hS hW;obtain⟨W,hW,a1,hBW⟩:=zao w 24 [.int .i64 f.k,.int .i64 f.wd,.int .i64 f.id,.int .i64 f.ix,.slice p f.kids.length c];have A1:=zh a1;have HBW:=zh hBW;have HW:=zh hW;clear a1 hBW hW
 go_in
 go_wp2_with fail;rw[<-HW.o];clear HW;refine(zgl (HF.o.below HBW.o) (HS.o.below HBW.o)).mono ?_;rintro e W2 ⟨rfl,hb2⟩;have HB2:=zh (HBW.o.trans (hb2.mono HBW.o.size));have B1:=A1.o.below hb2 A1.o.lt;have p0:=B1.row 0 _ rfl;have p1:=B1.row 1 _ rfl;have p3:=B1.row 3 _ rfl;have hl:=B1.lt;clear hb2 B1;have HPN:=zh (show zbK f=if zdh f=false then 0 else if f.k=14 then f.wd else if f.k=19 then zew f.ix else zew f.k from rfl);cases hm:zdh f with
 | false=>
  have HE:=zh (show zbK f=0 by rw[HPN.o,if_pos hm]);clear hm;go_wp2_with fail;rw[HE.o];go_ret;exact zbb rfl HB2.o
 | true=>
  have HM:=zh (zaE hm);have hk:=zhb HM.o.1;obtain⟨m,hmk⟩:∃m:Nat,f.k=m:=⟨f.k.toNat,by omega⟩;have HMK:=zh hmk;have hm20:m<=20:=by omega
  have hm1:1<=m:=by omega
  have HE:=zh (show zbK f=if(m:Int)=14 then f.wd else if(m:Int)=19 then zew f.ix else zew m by rw[HPN.o,if_neg (by rw[hm];decide),hmk]);have hx:=zhc HM.o.1;rw[hmk] at p0 hx;have s1:=(HSW.o.below HB2.o m hm20).1;clear hm hk hmk;cases q14:((m:Int) == 14) with
  | true=>
   have HE:=zh (show zbK f=f.wd by rw[HE.o,if_pos (by simpa using q14)]);go_wp2_with fail;rw[HE.o];go_ret;exact zbb rfl HB2.o
  | false=>
   cases q19:((m:Int) == 19) with
   | true=>
    have e19:(m:Int)=19:=by simpa using q19
    have HE:=zh (show zbK f=zew f.ix by rw[HE.o,if_neg (by simpa using q14),if_pos e19]);obtain⟨hx1,hx2⟩:=hx e19;obtain⟨j,hj⟩:∃j:Nat,f.ix=j:=⟨f.ix.toNat,by omega⟩;rw[hj] at HE p3 hx1 hx2;have hj20:j<=20:=by omega
    have s2:=(HSW.o.below HB2.o j hj20).1;clear e19 hj s1 hx;go_wp2_with fail;rw[HE.o];go_ret;exact zbb rfl HB2.o
   | false=>
    have HE:=zh (show zbK f=zew m by rw[HE.o,if_neg (by simpa using q14),if_neg (by simpa using q19)]);clear hx;go_wp2_with fail;rw[HE.o];go_ret;exact zbb rfl HB2.o
def zbz (f:Fd):Int × Int × Int:=if zdh f=false then(-1,-1,-1) else(zcY f.k.toNat,zbY f,if f.k=19 then 1 else 0)
def ShapeAt (W:World)(b m:Nat)(f:Fd)(p:Option Addr)(c:Nat):Prop:=W.cell? ⟨b,0,none⟩=some (.int .i64 m)/\W.cell? ⟨b,1,none⟩=some (.int .i64 f.wd)/\W.cell? ⟨b,2,none⟩=some (.int .i64 f.id)/\W.cell? ⟨b,3,none⟩=some (.int .i64 f.ix)/\W.cell? ⟨b,4,none⟩=some (.slice p f.kids.length c)/\W.cell? ⟨0,m*4+2,none⟩=some (.int .i64 (zcY m))
theorem ShapeAt.below {W U:World}{b m:Nat}{f:Fd}{p:Option Addr}{c:Nat}(h:ShapeAt W b m f p c)(hb:Below W.heap.size W U):ShapeAt U b m f p c:=by
 obtain⟨r0,r1,r2,r3,r4,r5⟩:=h;exact⟨zaa hb r0,zaa hb r1,zaa hb r2,zaa hb r3,zaa hb r4,zaa hb r5⟩
def zjW (w:World)(r:Int × Int × Int)(e:Ending)(w':World):Prop:=e=.returned (.tuple #[.int .i64 r.1,.int .i64 r.2.1,.int .i64 r.2.2])/\Below w.heap.size w w'
theorem zgn {fn:Func}{i j k:Nat}(hfn:fn.results=#[.tmp i,.tmp j,.tmp k]){w W:World}{r:Int × Int × Int}(hB:Below w.heap.size w W){tmps:Array Value}(h1:tmps.getD i undef=.int .i64 r.1)(h2:tmps.getD j undef=.int .i64 r.2.1)(h3:tmps.getD k undef=.int .i64 r.2.2) :
  bodyPost Tryz.prog fn (zjW w r) Exit.ret { tmps:=tmps,defers:=[] } W:=by
 refine bodyPost_ret (v:=.tuple #[.int .i64 r.1,.int .i64 r.2.1,.int .i64 r.2.2]) ?_ rfl ⟨rfl,hB⟩;rw[Array.getD_eq_getD_getElem?] at h1 h2 h3;simp[results,hfn,go_sem,h1,h2,h3]
theorem zl8 {w:World}{f:Fd}{p:Option Addr}{c:Nat}(hf:FdAt w f (f7 f p c))(hS:SaysAt w)(hW:SaysW w) :
  Calls Tryz.prog 83 #[.agg #[.int .i64 f.k,.int .i64 f.wd,.int .i64 f.id,.int .i64 f.ix,.slice p f.kids.length c]] w (zjW w (zbz f)):=by
 have HF:=zh hf;have HS:=zh hS;have HSW:=zh hW;clear hf hS hW;obtain⟨W,hW,a1,hBW⟩:=zao w 24 [.int .i64 f.k,.int .i64 f.wd,.int .i64 f.id,.int .i64 f.ix,.slice p f.kids.length c];have A1:=zh a1;have HBW:=zh hBW;have HW:=zh hW;clear a1 hBW hW
 go_in
 go_wp2_with fail;rw[<-HW.o];clear HW;refine(zgl (HF.o.below HBW.o) (HS.o.below HBW.o)).mono ?_;rintro e W2 ⟨rfl,hb2⟩;have HB2:=zh (HBW.o.trans (hb2.mono HBW.o.size));have B1:=A1.o.below hb2 A1.o.lt;obtain⟨p0,p1,p2,p3,p4⟩:=rr5 B1.row;have hl:=B1.lt;clear hb2 B1;cases hm:zdh f with
 | false=>
  have HE:=zh (show zbz f=(-1,-1,-1) by unfold zbz;rw[if_pos hm]);clear hm;go_wp2_with fail;rw[HE.o];exact zgn (i:=2) (j:=3) (k:=4) rfl HB2.o rfl rfl rfl
 | true=>
  have HM:=zh (zaE hm);have hk:=zhb HM.o.1;obtain⟨m,hmk⟩:∃m:Nat,f.k=m:=⟨f.k.toNat,by omega⟩;have HMK:=zh hmk;have hm20:m<=20:=by omega
  have hm1:1<=m:=by omega
  have g21:(m:Int)<21:=by omega
  have HE:=zh (show zbz f=(zcY m,(zbY f:Int),if(m:Int)=19 then 1 else 0) by unfold zbz;rw[if_neg (by rw[hm];decide),hmk];rfl);rw[hmk] at p0;have s1:=(HSW.o.below HB2.o m hm20).2;have hs:ShapeAt W2 w.heap.size m f p c:=⟨p0,p1,p2,p3,p4,s1⟩;have HS0:=zh (show ShapeAt W2.drew w.heap.size m f p c from hs);clear hm hk hs;cases q19:((m:Int) == 19) with
  | true=>
   have HE:=zh (show zbz f=(zcY m,(zbY f:Int),1) by rw[HE.o,if_pos (by simpa using q19)]);go_wp2_with fail;refine Late.region (fun w'=>ShapeAt w' w.heap.size m f p c) (fun _=>false) (by kernel_rfl) ?_;refine Late.ta (i:=0) (v:=?_) ?_ HS0.o ?_;rotate_left
   ·intro w' hS;obtain⟨r0,r1,r2,r3,r4,r5⟩:=hS;go_simp;rfl
   refine Late.ta (i:=1) (v:=?_) ?_ HS0.o ?_;rotate_left
   ·intro w' hS;obtain⟨r0,r1,r2,r3,r4,r5⟩:=hS;go_simp;rfl
   refine Late.ta (i:=2) (v:=?_) ?_ HS0.o ?_;rotate_left
   ·intro w' hS;obtain⟨r0,r1,r2,r3,r4,r5⟩:=hS;go_simp;rfl
   refine Late.ta (i:=3) (v:=?_) ?_ HS0.o ?_;rotate_left
   ·intro w' hS;obtain⟨r0,r1,r2,r3,r4,r5⟩:=hS;go_simp;rfl
   refine Late.ta (i:=4) (v:=?_) ?_ HS0.o ?_;rotate_left
   ·intro w' hS;obtain⟨r0,r1,r2,r3,r4,r5⟩:=hS;go_simp;rfl
   refine Late.ta (i:=5) (v:=?_) ?_ HS0.o ?_;rotate_left
   ·intro w' hS;obtain⟨r0,r1,r2,r3,r4,r5⟩:=hS;go_simp;rfl
   refine Late.ta (i:=8) (v:=?_) ?_ HS0.o ?_;rotate_left
   ·intro w' hS;obtain⟨r0,r1,r2,r3,r4,r5⟩:=hS;go_simp;rfl
   refine Late.on (i:=6) fun K hK=>?_;go_simp;rw[<-HMK.o];refine(zhd (HF.o.below (zaf HB2.o)) (HS.o.below (zaf HB2.o))).mono ?_;rintro e W3 ⟨pq,pc,rfl,hpr,hb3⟩;have HS1:=zh (HS0.o.below hb3);have HB3:=zh ((zaf HB2.o).trans (hb3.mono HB2.o.size));refine hK _ _ (fun _=>HS1.o) ?_;clear hK K hb3;refine Late.ta (i:=7) (v:=?_) ?_ HS1.o ?_;rotate_left
   ·intro w' hS;obtain⟨r0,r1,r2,r3,r4,r5⟩:=hS;go_simp;rfl
   refine Late.ta (i:=9) (v:=?_) ?_ HS1.o ?_;rotate_left
   ·intro w' hS;obtain⟨r0,r1,r2,r3,r4,r5⟩:=hS;go_simp;rfl
   refine Late.ta (i:=10) (v:=?_) ?_ HS1.o ?_;rotate_left
   ·intro w' hS;obtain⟨r0,r1,r2,r3,r4,r5⟩:=hS;go_simp;rfl
   refine Late.ta (i:=11) (v:=?_) ?_ HS1.o ?_;rotate_left
   ·intro w' hS;obtain⟨r0,r1,r2,r3,r4,r5⟩:=hS;go_simp;rfl
   refine Late.done (by kernel_rfl) ?_ _;go_wp2_with fail;rw[HE.o];exact zgn (i:=2) (j:=3) (k:=4) rfl HB3.o rfl rfl rfl
  | false=>
   have HE:=zh (show zbz f=(zcY m,(zbY f:Int),0) by rw[HE.o,if_neg (by simpa using q19)]);go_wp2_with fail;refine Late.region (fun w'=>ShapeAt w' w.heap.size m f p c) (fun _=>false) (by kernel_rfl) ?_;refine Late.ta (i:=0) (v:=?_) ?_ HS0.o ?_;rotate_left
   ·intro w' hS;obtain⟨r0,r1,r2,r3,r4,r5⟩:=hS;go_simp;rfl
   refine Late.ta (i:=1) (v:=?_) ?_ HS0.o ?_;rotate_left
   ·intro w' hS;obtain⟨r0,r1,r2,r3,r4,r5⟩:=hS;go_simp;rfl
   refine Late.ta (i:=2) (v:=?_) ?_ HS0.o ?_;rotate_left
   ·intro w' hS;obtain⟨r0,r1,r2,r3,r4,r5⟩:=hS;go_simp;rfl
   refine Late.ta (i:=3) (v:=?_) ?_ HS0.o ?_;rotate_left
   ·intro w' hS;obtain⟨r0,r1,r2,r3,r4,r5⟩:=hS;go_simp;rfl
   refine Late.ta (i:=4) (v:=?_) ?_ HS0.o ?_;rotate_left
   ·intro w' hS;obtain⟨r0,r1,r2,r3,r4,r5⟩:=hS;go_simp;rfl
   refine Late.ta (i:=5) (v:=?_) ?_ HS0.o ?_;rotate_left
   ·intro w' hS;obtain⟨r0,r1,r2,r3,r4,r5⟩:=hS;go_simp;rfl
   refine Late.ta (i:=8) (v:=?_) ?_ HS0.o ?_;rotate_left
   ·intro w' hS;obtain⟨r0,r1,r2,r3,r4,r5⟩:=hS;go_simp;rfl
   refine Late.on (i:=6) fun K hK=>?_;go_simp;rw[<-HMK.o];refine(zhd (HF.o.below (zaf HB2.o)) (HS.o.below (zaf HB2.o))).mono ?_;rintro e W3 ⟨pq,pc,rfl,hpr,hb3⟩;have HS1:=zh (HS0.o.below hb3);have HB3:=zh ((zaf HB2.o).trans (hb3.mono HB2.o.size));refine hK _ _ (fun _=>HS1.o) ?_;clear hK K hb3;refine Late.ta (i:=7) (v:=?_) ?_ HS1.o ?_;rotate_left
   ·intro w' hS;obtain⟨r0,r1,r2,r3,r4,r5⟩:=hS;go_simp;rfl
   refine Late.ta (i:=9) (v:=?_) ?_ HS1.o ?_;rotate_left
   ·intro w' hS;obtain⟨r0,r1,r2,r3,r4,r5⟩:=hS;go_simp;rfl
   refine Late.ta (i:=10) (v:=?_) ?_ HS1.o ?_;rotate_left
   ·intro w' hS;obtain⟨r0,r1,r2,r3,r4,r5⟩:=hS;go_simp;rfl
   refine Late.ta (i:=11) (v:=?_) ?_ HS1.o ?_;rotate_left
   ·intro w' hS;obtain⟨r0,r1,r2,r3,r4,r5⟩:=hS;go_simp;rfl
   refine Late.done (by kernel_rfl) ?_ _;go_wp2_with fail;rw[HE.o];exact zgn (i:=2) (j:=3) (k:=4) rfl HB3.o rfl rfl rfl
def zaB (f:Fd)(k e h:Nat):Int:=if f.k=18 then(e:Int)*(1+3*k) else if(k=0/\h=0)\/k=2 then 0 else if k=0\/f.k=2 then zhT e else if f.k=12\/f.k=13\/f.k=15 then 4*((e:Int)+1) else(e:Int)*zbK f
theorem ziV (k:Int):0<=zew k/\zew k<=8:=by
 unfold zew
 repeat (first|(split;omega)|omega)
theorem zkT (f:Fd):0<=zbK f/\zbK f<=16:=by
 unfold zbK;split
 ·omega
 ·rename_i hm
  have hf:=(zaE (by simpa using hm)).1;split
  ·rename_i h14
   unfold zaU at hf;simp only[Bool.and_eq_true,decide_eq_true_eq] at hf;have:=hf.2.1;unfold zbV at this;rw[if_pos h14] at this;simp only[Bool.and_eq_true,decide_eq_true_eq] at this;omega
  ·split
   ·have:=ziV f.ix;omega
   ·have:=ziV f.k;omega
theorem zl9 {w:World}{f:Fd}{p:Option Addr}{c:Nat}(hf:FdAt w f (f7 f p c))(hS:SaysAt w)(hW:SaysW w)(k e h:Nat)(hk:k<=2)(he:e<=8192) :
  Calls Tryz.prog 84 #[.agg #[.int .i64 f.k,.int .i64 f.wd,.int .i64 f.id,.int .i64 f.ix,.slice p f.kids.length c],.int .i64 k,.int .i64 e,.int .i64 h] w (zga w (zaB f k e h)):=by
 have HF:=zh hf;have HS:=zh hS;have HSW:=zh hW;clear hf hS hW;obtain⟨W,hW,a1,hBW⟩:=zao w 24 [.int .i64 f.k,.int .i64 f.wd,.int .i64 f.id,.int .i64 f.ix,.slice p f.kids.length c];have A1:=zh a1;have HB:=zh hBW;have HW:=zh hW;have HBW:Hid (Below w.heap.size w (w.alloc (.cells #[.int .i64 f.k,.int .i64 f.wd,.int .i64 f.id,.int .i64 f.ix,.slice p f.kids.length c] 24))):=zh (hW ▸ hBW);clear a1 hBW hW;obtain rfl|rfl|rfl:k=0\/k=1\/k=2:=by omega
 ·cases q18:(f.k == 18) with
  | true=>
   have HE:=zh (show zaB f 0 e h=(e:Int)*(1+3*0) by unfold zaB;rw[if_pos (by simpa using q18)];rfl)
   go_in
   go_wp2_with fail;rw[HE.o];go_ret;exact zbb (by omega) HBW.o
  | false=>
   have n18:¬f.k=18:=by simpa using q18
   cases qh:((h:Int) == 0) with
   | true=>
    have eh:h=0:=by have:(h:Int)=0:=(by simpa using qh);omega
    have HE:=zh (show zaB f 0 e h=0 by unfold zaB;rw[if_neg n18,if_pos (.inl ⟨rfl,eh⟩)]);clear n18 eh
    go_in
    go_wp2_with fail;rw[HE.o];go_ret;exact zbb rfl HBW.o
   | false=>
    have eh:¬h=0:=by intro e';rw[e'] at qh;cases qh
    have HE:=zh (show zaB f 0 e h=zhT e by unfold zaB;rw[if_neg n18,if_neg (by omega),if_pos (.inl rfl)]);clear n18 eh
    go_in
    go_wp2_with fail;rw[<-HW.o];refine(ziS e ⟨by omega,by omega⟩ W).mono ?_;rintro e' W2 ⟨rfl,rfl⟩;go_wp2_with fail;rw[HE.o];go_ret;exact zbb rfl HB.o
 ·cases q18:(f.k == 18) with
  | true=>
   have HE:=zh (show zaB f 1 e h=(e:Int)*(1+3*1) by unfold zaB;rw[if_pos (by simpa using q18)];rfl)
   go_in
   go_wp2_with fail;rw[HE.o];go_ret;exact zbb (by omega) HBW.o
  | false=>
   have n18:¬f.k=18:=by simpa using q18
   cases q2:(f.k == 2) with
   | true=>
    have HE:=zh (show zaB f 1 e h=zhT e by unfold zaB;rw[if_neg n18,if_neg (by omega),if_pos (.inr (by simpa using q2))]);clear n18
    go_in
    go_wp2_with fail;rw[<-HW.o];refine(ziS e ⟨by omega,by omega⟩ W).mono ?_;rintro e' W2 ⟨rfl,rfl⟩;go_wp2_with fail;rw[HE.o];go_ret;exact zbb rfl HB.o
   | false=>
    have n2:¬f.k=2:=by simpa using q2
    have HN:=zh (show zaB f 1 e h=if f.k=12\/f.k=13\/f.k=15 then 4*((e:Int)+1) else(e:Int)*zbK f by unfold zaB;rw[if_neg n18,if_neg (by omega),if_neg (by omega)]);clear n18 n2;cases q12:(f.k == 12) with
    | true=>
     have HE:=zh (show zaB f 1 e h=4*((e:Int)+1) by rw[HN.o,if_pos (.inl (by simpa using q12))])
     go_in
     go_wp2_with fail;rw[HE.o];go_ret;exact zbb rfl HBW.o
    | false=>
     cases q13:(f.k == 13) with
     | true=>
      have HE:=zh (show zaB f 1 e h=4*((e:Int)+1) by rw[HN.o,if_pos (.inr (.inl (by simpa using q13)))])
      go_in
      go_wp2_with fail;rw[HE.o];go_ret;exact zbb rfl HBW.o
     | false=>
      cases q15:(f.k == 15) with
      | true=>
       have HE:=zh (show zaB f 1 e h=4*((e:Int)+1) by rw[HN.o,if_pos (.inr (.inr (by simpa using q15)))])
       go_in
       go_wp2_with fail;rw[HE.o];go_ret;exact zbb rfl HBW.o
      | false=>
       have HE:=zh (show zaB f 1 e h=(e:Int)*zbK f by rw[HN.o,if_neg (fun g=>g.elim (by simpa using q12) (fun g=>g.elim (by simpa using q13) (by simpa using q15)))])
       go_in
       go_wp2_with fail;rw[<-HW.o];refine(zkS (HF.o.below HB.o) (HS.o.below HB.o) (HSW.o.below HB.o)).mono ?_;rintro e' W2 ⟨rfl,hb2⟩;have hwt:=zkT f;have HB2:=zh (HB.o.trans (hb2.mono HB.o.size));obtain⟨wt,hwe⟩:=nm (zbK f);rw[<-hwe] at hwt HE ⊢;have hp1:0<=(e:Int)*wt:=Int.mul_nonneg (by omega) hwt.1;have hp2:(e:Int)*wt<=8192*16:=Int.mul_le_mul (by omega) hwt.2 hwt.1 (by omega);clear hwe hb2;go_wp2_with fail;rw[HE.o];go_ret;exact zbb rfl HB2.o
 ·cases q18:(f.k == 18) with
  | true=>
   have HE:=zh (show zaB f 2 e h=(e:Int)*(1+3*2) by unfold zaB;rw[if_pos (by simpa using q18)];rfl)
   go_in
   go_wp2_with fail;rw[HE.o];go_ret;exact zbb (by omega) HBW.o
  | false=>
   have n18:¬f.k=18:=by simpa using q18
   have HE:=zh (show zaB f 2 e h=0 by unfold zaB;rw[if_neg n18,if_pos (.inr rfl)]);clear n18
   go_in
   go_wp2_with fail;rw[HE.o];go_ret;exact zbb rfl HBW.o
def zjw (l:List ByteArray):Bool:=l.any fun s=>decide (65536<s.size)
def zex (f:Fd)(e:Nat):Nat->List ByteArray->Bool
 | _,[]=>false
 | k,s :: r=>decide ((s.size:Int)<zaB f k e s.size) || zex f e (k+1) r
def zey (f:Fd)(e:Nat)(p:Dt):Bool:=(decide (f.k=16) && decide (p.len<(e:Int)*f.wd)) || (decide (f.k=17) && decide (p.len<(e:Int)))
def zaP (f:Fd)(d:Dt):Int:=
 if(d.bufs.length:Int)≠(zbz f).1\/(d.kids.length:Int)≠(zbz f).2.1\/(d.dict.length:Int)≠(zbz f).2.2 then 80
 else if d.len<0\/d.off<0\/d.nul<0\/d.len<d.nul then 81
 else if 4096<d.len\/4096<d.off\/4096<d.off+d.len then 3
 else if zjw d.bufs=true then 4
 else if zex f (d.off+d.len).toNat 0 d.bufs=true then 82
 else if(d.kids.any (zey f (d.off+d.len).toNat))=true then 82
 else zc7 f d d.len.toNat d.off.toNat
theorem zof (f:Fd)(d:Dt):zaP f d =
 if(d.bufs.length:Int)≠(zbz f).1\/(d.kids.length:Int)≠(zbz f).2.1\/(d.dict.length:Int)≠(zbz f).2.2 then 80
 else if d.len<0\/d.off<0\/d.nul<0\/d.len<d.nul then 81
 else if 4096<d.len\/4096<d.off\/4096<d.off+d.len then 3
 else if zjw d.bufs=true then 4
 else if zex f (d.off+d.len).toNat 0 d.bufs=true then 82
 else if(d.kids.any (zey f (d.off+d.len).toNat))=true then 82
 else zc7 f d d.len.toNat d.off.toNat:=rfl
theorem zkU {α:Type}{q:α->Bool}{l:List α}(h:∀j (hj:j<l.length),q l[j]=false):l.any q=false:=by
 rw[List.any_eq_false];intro x hx;obtain⟨j,hj,rfl⟩:=List.getElem_of_mem hx;rw[h j hj];decide
theorem zog {α:Type}{q:α->Bool}{l:List α}{j:Nat}(hj:j<l.length)(h:q l[j]=true):l.any q=true:=List.any_eq_true.2 ⟨l[j],List.getElem_mem hj,h⟩
theorem zh7 {f:Fd}{e:Nat}:∀ {l:List ByteArray} {k:Nat},(∀j (hj:j<l.length),decide ((l[j].size:Int)<zaB f (k+j) e l[j].size)=false)->zex f e k l=false
 | [],k,_=>rfl
 | s :: r,k,h=>by
  unfold zex;have h0:=h 0 (by simp);simp only[List.getElem_cons_zero,Nat.add_zero] at h0;rw[h0,Bool.false_or];exact zh7 fun j hj=>by
   have:=h (j+1) (by simpa using hj);simp only[List.getElem_cons_succ] at this
   rwa [show k+(j+1)=k+1+j by omega] at this
theorem zfV {f:Fd}{e:Nat}:∀ {l:List ByteArray} {k j:Nat} (hj:j<l.length),decide ((l[j].size:Int)<zaB f (k+j) e l[j].size)=true->zex f e k l=true
 | s :: r,k,0,_,h=>by
  unfold zex;simp only[List.getElem_cons_zero,Nat.add_zero] at h;rw[h,Bool.true_or]
 | s :: r,k,j+1,hj,h=>by
  unfold zex;simp only[List.getElem_cons_succ] at h;rw[zfV (l:=r) (k:=k+1) (j:=j) (by simpa using hj) (by rwa [show k+(j+1)=k+1+j by omega] at h),Bool.or_true]
theorem ziW (k:Nat):0<=zcY k/\zcY k<=3:=by
 unfold zcY
 (repeat' split) <;> omega
theorem zoh (f:Fd):(zbz f).1<=3:=by
 unfold zbz;by_cases h:zdh f=false
 ·rw[if_pos h];decide
 ·rw[if_neg h];exact(ziW _).2
theorem zh8 {f:Fd}{d:Dt}(h:(d.bufs.length:Int)=(zbz f).1):zbX f.k=true->0<d.bufs.length:=by
 intro hv;unfold zbz at h;by_cases hm:zdh f=false
 ·rw[if_pos hm] at h;simp at h
 ·rw[if_neg hm] at h;have hk:=zhb (zaE (by simpa using hm)).1;simp only at h;unfold zbX at hv;simp only[Bool.and_eq_true,bne_iff_ne] at hv;have:1<=zcY f.k.toNat:=by
   unfold zcY;rw[if_neg (by omega)]
   (repeat' split) <;> omega
  omega
theorem zoi {f:Fd}{n:Nat}(h:(n:Int)=(zbz f).1):zaU f=true:=by
 by_cases hm:zdh f=false
 ·unfold zbz at h;rw[if_pos hm] at h;simp at h
 ·exact(zaE (by simpa using hm)).1
theorem zfK {f:Fd}(h:zaU f=true)(hk:f.k=16):1<=f.wd/\f.wd<=64:=by
 unfold zaU at h;simp only[Bool.and_eq_true,decide_eq_true_eq] at h;have h1:=h.2.1;unfold zbV at h1;rw[if_neg (by omega),if_pos hk] at h1;simpa using h1
theorem zci {S:Nat->Prop}{w:World}{l:List Dt}{p:Option Addr}{n cap:Nat}(h:M.At S w (.many 6 (l.map dtR)) (.slice p n cap))(i:Nat)(hi:i<l.length):∃b o bp bc kp kc dp dc,p=some ⟨b,o,none⟩/\S b /\
  w.cell? ⟨b,o+i*6,none⟩=some (.int .i64 l[i].len)/\w.cell? ⟨b,o+i*6+1,none⟩=some (.int .i64 l[i].off)/\w.cell? ⟨b,o+i*6+2,none⟩=some (.int .i64 l[i].nul)/\w.cell? ⟨b,o+i*6+3,none⟩=some (.slice bp l[i].bufs.length bc)/\w.cell? ⟨b,o+i*6+4,none⟩=some (.slice kp l[i].kids.length kc)/\w.cell? ⟨b,o+i*6+5,none⟩=some (.slice dp l[i].dict.length dc) /\
  DAt S w l[i] [.int .i64 l[i].len,.int .i64 l[i].off,.int .i64 l[i].nul,.slice bp l[i].bufs.length bc,.slice kp l[i].kids.length kc,.slice dp l[i].dict.length dc]:=by
 obtain⟨b,o,cs,rfl,hS,h2,h3,h4⟩:=M.At.get h i (by simpa using hi);simp only[List.getElem_map] at h4;obtain⟨bp,bc,kp,kc,dp,dc,rfl,_⟩:=DAt.shape (show DAt S w l[i] cs from h4);exact⟨b,o,bp,bc,kp,kc,dp,dc,rfl,hS,h3 0 _ rfl,h3 1 _ rfl,h3 2 _ rfl,h3 3 _ rfl,h3 4 _ rfl,h3 5 _ rfl,h4⟩
theorem zma {w:World}{f:Fd}{d:Dt}{fs ds:List Value}(hf:FdAt w f fs)(hd:DAt (fun _=>True) w d ds)(hS:SaysAt w)(hW:SaysW w) :
  Calls Tryz.prog 65 #[.agg fs.toArray,.agg ds.toArray] w (zcP w (zaP f d)):=by
 have HF:=zh hf;have HD:=zh hd;obtain⟨fp,fc,rfl,-,-,-,hwb,-⟩:=hf.shape;obtain⟨bp,bc,kp,kc,dp,dc,rfl,hbu,hki,hdi⟩:=hd.shape;obtain⟨-,hb1,hb2⟩:=zam hbu;obtain⟨-,hk1,hk2⟩:=zam hki;obtain⟨-,hd1,hd2⟩:=zam hdi;simp only[List.length_map] at hb1 hk1 hd1;unfold maxLen at hb2 hk2 hd2;have HBU:=zh hbu;have HKI:=zh hki;have HS:=zh hS;have HSW:=zh hW;have HWB:=zh hwb;clear hf hd hS hW hbu hki hdi hwb;obtain⟨W,hW,a1,a2,a3,hBW⟩:=zbG w 26 (f7 f fp fc) 46 (d6 d bp bc kp kc dp dc) 69 [.int .i64 0,.slice none 0 0,.int .i64 0];have A1:=zh a1;have A2:=zh a2;have A3:=zh a3;have HBW:=zh hBW;have HW:=zh hW;clear a1 a2 a3 hBW hW;have HSE:=zh (zof f d);have HFW:=zh (zoh f);have HSV:=zh (@zh8 f d);have HMY:=zh (@zoi f d.bufs.length)
 go_in
 go_wp2_with fail;rw[<-HW.o];clear HW;refine(zl8 (HF.o.below HBW.o) (HS.o.below HBW.o) (HSW.o.below HBW.o)).mono ?_;rintro e W2 ⟨rfl,hb2'⟩;have HB2:=zh (HBW.o.trans (hb2'.mono HBW.o.size));have B1:=zh (A1.o.below hb2' A1.o.lt);have B2:=zh (A2.o.below hb2' A2.o.lt);have BB3:=zh (A3.o.below hb2' A3.o.lt);clear hb2';obtain⟨sh,hsh⟩:=nm (zbz f);rw[<-hsh] at HSE HFW HSV HMY ⊢;clear hsh;obtain⟨s1,s2,s3⟩:=sh;obtain⟨r0,r1,r2,r3,r4,r5⟩:=rr6 B2.o.row;have hl2:=B2.o.lt;obtain⟨q0,q1,q2⟩:=rr3 BB3.o.row;obtain⟨z0,z1,z2⟩:=ff3 BB3.o;have hl3:=BB3.o.lt;cases m0:((d.bufs.length:Int) != s1) with
 | true=>
  have HE:=zh (show zaP f d=80 by rw[HSE.o,if_pos (.inl (by simpa using m0))]);go_wp2_with fail;refine(zar 80 0 W2).mono ?_;rintro e WF ⟨dd,path,at',rfl,hw3,hb3⟩;have BB4:=zh (BB3.o.below hb3 BB3.o.lt);have HB3:=zh (HB2.o.trans (hb3.mono HB2.o.size));have HWV:=zh hw3;obtain⟨pq,pc,rfl,-⟩:=hw3;clear hb3;clear q0 q1 q2 z0 z1 z2 hl3;obtain⟨q0,q1,q2⟩:=rr3 BB4.o.row;obtain⟨z0,z1,z2⟩:=ff3 BB4.o;have hl3:=BB4.o.lt;go_wp2_with fail;rw[HE.o];exact zal (i:=4) rfl (zak rfl BB4.o _ _ _) HWV.o (zae HB3.o (by omega) _ _ _) rfl
 | false=>
 cases m1:((d.kids.length:Int) != s2) with
 | true=>
  have HE:=zh (show zaP f d=80 by rw[HSE.o,if_pos (.inr (.inl (by simpa using m1)))]);go_wp2_with fail;refine(zar 80 0 W2).mono ?_;rintro e WF ⟨dd,path,at',rfl,hw3,hb3⟩;have BB4:=zh (BB3.o.below hb3 BB3.o.lt);have HB3:=zh (HB2.o.trans (hb3.mono HB2.o.size));have HWV:=zh hw3;obtain⟨pq,pc,rfl,-⟩:=hw3;clear hb3;clear q0 q1 q2 z0 z1 z2 hl3;obtain⟨q0,q1,q2⟩:=rr3 BB4.o.row;obtain⟨z0,z1,z2⟩:=ff3 BB4.o;have hl3:=BB4.o.lt;go_wp2_with fail;rw[HE.o];exact zal (i:=4) rfl (zak rfl BB4.o _ _ _) HWV.o (zae HB3.o (by omega) _ _ _) rfl
 | false=>
 cases m2:((d.dict.length:Int) != s3) with
 | true=>
  have HE:=zh (show zaP f d=80 by rw[HSE.o,if_pos (.inr (.inr (by simpa using m2)))]);go_wp2_with fail;refine(zar 80 0 W2).mono ?_;rintro e WF ⟨dd,path,at',rfl,hw3,hb3⟩;have BB4:=zh (BB3.o.below hb3 BB3.o.lt);have HB3:=zh (HB2.o.trans (hb3.mono HB2.o.size));have HWV:=zh hw3;obtain⟨pq,pc,rfl,-⟩:=hw3;clear hb3;clear q0 q1 q2 z0 z1 z2 hl3;obtain⟨q0,q1,q2⟩:=rr3 BB4.o.row;obtain⟨z0,z1,z2⟩:=ff3 BB4.o;have hl3:=BB4.o.lt;go_wp2_with fail;rw[HE.o];exact zal (i:=4) rfl (zak rfl BB4.o _ _ _) HWV.o (zae HB3.o (by omega) _ _ _) rfl
 | false=>
 have HL:=zh (And.intro (show(d.bufs.length:Int)=s1 by simpa using m0) (And.intro (show(d.kids.length:Int)=s2 by simpa using m1) (show(d.dict.length:Int)=s3 by simpa using m2)));replace HSE:=zh (HSE.o.trans (if_neg (fun g=>g.elim (fun g=>g HL.o.1) (fun g=>g.elim (fun g=>g HL.o.2.1) (fun g=>g HL.o.2.2)))));cases n0:decide (d.len<0) with
 | true=>
  have HE:=zh (show zaP f d=81 by rw[HSE.o,if_pos (.inl (of_decide_eq_true n0))]);go_wp2_with fail;refine(zar 81 0 W2).mono ?_;rintro e WF ⟨dd,path,at',rfl,hw3,hb3⟩;have BB4:=zh (BB3.o.below hb3 BB3.o.lt);have HB3:=zh (HB2.o.trans (hb3.mono HB2.o.size));have HWV:=zh hw3;obtain⟨pq,pc,rfl,-⟩:=hw3;clear hb3;clear q0 q1 q2 z0 z1 z2 hl3;obtain⟨q0,q1,q2⟩:=rr3 BB4.o.row;obtain⟨z0,z1,z2⟩:=ff3 BB4.o;have hl3:=BB4.o.lt;go_wp2_with fail;rw[HE.o];exact zal (i:=4) rfl (zak rfl BB4.o _ _ _) HWV.o (zae HB3.o (by omega) _ _ _) rfl
 | false=>
 have n0p:=of_decide_eq_false n0;cases n1:decide (d.off<0) with
 | true=>
  have HE:=zh (show zaP f d=81 by rw[HSE.o,if_pos (.inr (.inl (of_decide_eq_true n1)))]);go_wp2_with fail;refine(zar 81 0 W2).mono ?_;rintro e WF ⟨dd,path,at',rfl,hw3,hb3⟩;have BB4:=zh (BB3.o.below hb3 BB3.o.lt);have HB3:=zh (HB2.o.trans (hb3.mono HB2.o.size));have HWV:=zh hw3;obtain⟨pq,pc,rfl,-⟩:=hw3;clear hb3;clear q0 q1 q2 z0 z1 z2 hl3;obtain⟨q0,q1,q2⟩:=rr3 BB4.o.row;obtain⟨z0,z1,z2⟩:=ff3 BB4.o;have hl3:=BB4.o.lt;go_wp2_with fail;rw[HE.o];exact zal (i:=4) rfl (zak rfl BB4.o _ _ _) HWV.o (zae HB3.o (by omega) _ _ _) rfl
 | false=>
 have n1p:=of_decide_eq_false n1;cases n2:decide (d.nul<0) with
 | true=>
  have HE:=zh (show zaP f d=81 by rw[HSE.o,if_pos (.inr (.inr (.inl (of_decide_eq_true n2))))]);go_wp2_with fail;refine(zar 81 0 W2).mono ?_;rintro e WF ⟨dd,path,at',rfl,hw3,hb3⟩;have BB4:=zh (BB3.o.below hb3 BB3.o.lt);have HB3:=zh (HB2.o.trans (hb3.mono HB2.o.size));have HWV:=zh hw3;obtain⟨pq,pc,rfl,-⟩:=hw3;clear hb3;clear q0 q1 q2 z0 z1 z2 hl3;obtain⟨q0,q1,q2⟩:=rr3 BB4.o.row;obtain⟨z0,z1,z2⟩:=ff3 BB4.o;have hl3:=BB4.o.lt;go_wp2_with fail;rw[HE.o];exact zal (i:=4) rfl (zak rfl BB4.o _ _ _) HWV.o (zae HB3.o (by omega) _ _ _) rfl
 | false=>
 have n2p:=of_decide_eq_false n2;cases n3:decide (d.len<d.nul) with
 | true=>
  have HE:=zh (show zaP f d=81 by rw[HSE.o,if_pos (.inr (.inr (.inr (of_decide_eq_true n3))))]);go_wp2_with fail;refine(zar 81 0 W2).mono ?_;rintro e WF ⟨dd,path,at',rfl,hw3,hb3⟩;have BB4:=zh (BB3.o.below hb3 BB3.o.lt);have HB3:=zh (HB2.o.trans (hb3.mono HB2.o.size));have HWV:=zh hw3;obtain⟨pq,pc,rfl,-⟩:=hw3;clear hb3;clear q0 q1 q2 z0 z1 z2 hl3;obtain⟨q0,q1,q2⟩:=rr3 BB4.o.row;obtain⟨z0,z1,z2⟩:=ff3 BB4.o;have hl3:=BB4.o.lt;go_wp2_with fail;rw[HE.o];exact zal (i:=4) rfl (zak rfl BB4.o _ _ _) HWV.o (zae HB3.o (by omega) _ _ _) rfl
 | false=>
 have n3p:=of_decide_eq_false n3;have p0:=of_decide_eq_false n0;have p1:=of_decide_eq_false n1;have p2:=of_decide_eq_false n2;have p3:=of_decide_eq_false n3;replace HSE:=zh (HSE.o.trans (if_neg (by omega)));cases o0:decide (4096<d.len) with
 | true=>
  have HE:=zh (show zaP f d=3 by rw[HSE.o,if_pos (.inl (of_decide_eq_true o0))]);go_wp2_with fail;refine(zar 3 0 W2).mono ?_;rintro e WF ⟨dd,path,at',rfl,hw3,hb3⟩;have BB4:=zh (BB3.o.below hb3 BB3.o.lt);have HB3:=zh (HB2.o.trans (hb3.mono HB2.o.size));have HWV:=zh hw3;obtain⟨pq,pc,rfl,-⟩:=hw3;clear hb3;clear q0 q1 q2 z0 z1 z2 hl3;obtain⟨q0,q1,q2⟩:=rr3 BB4.o.row;obtain⟨z0,z1,z2⟩:=ff3 BB4.o;have hl3:=BB4.o.lt;go_wp2_with fail;rw[HE.o];exact zal (i:=4) rfl (zak rfl BB4.o _ _ _) HWV.o (zae HB3.o (by omega) _ _ _) rfl
 | false=>
 have o0p:=of_decide_eq_false o0;cases o1:decide (4096<d.off) with
 | true=>
  have HE:=zh (show zaP f d=3 by rw[HSE.o,if_pos (.inr (.inl (of_decide_eq_true o1)))]);go_wp2_with fail;refine(zar 3 0 W2).mono ?_;rintro e WF ⟨dd,path,at',rfl,hw3,hb3⟩;have BB4:=zh (BB3.o.below hb3 BB3.o.lt);have HB3:=zh (HB2.o.trans (hb3.mono HB2.o.size));have HWV:=zh hw3;obtain⟨pq,pc,rfl,-⟩:=hw3;clear hb3;clear q0 q1 q2 z0 z1 z2 hl3;obtain⟨q0,q1,q2⟩:=rr3 BB4.o.row;obtain⟨z0,z1,z2⟩:=ff3 BB4.o;have hl3:=BB4.o.lt;go_wp2_with fail;rw[HE.o];exact zal (i:=4) rfl (zak rfl BB4.o _ _ _) HWV.o (zae HB3.o (by omega) _ _ _) rfl
 | false=>
 have o1p:=of_decide_eq_false o1;have HWR:=zh (show wrap64 (d.off+d.len)=d.off+d.len by unfold wrap64;omega);cases o2:decide (4096<d.off+d.len) with
 | true=>
  have HE:=zh (show zaP f d=3 by rw[HSE.o,if_pos (.inr (.inr (of_decide_eq_true o2)))]);go_wp2_with fail;refine(zar 3 0 W2).mono ?_;rintro e WF ⟨dd,path,at',rfl,hw3,hb3⟩;have BB4:=zh (BB3.o.below hb3 BB3.o.lt);have HB3:=zh (HB2.o.trans (hb3.mono HB2.o.size));have HWV:=zh hw3;obtain⟨pq,pc,rfl,-⟩:=hw3;clear hb3;clear q0 q1 q2 z0 z1 z2 hl3;obtain⟨q0,q1,q2⟩:=rr3 BB4.o.row;obtain⟨z0,z1,z2⟩:=ff3 BB4.o;have hl3:=BB4.o.lt;go_wp2_with fail;rw[HE.o];exact zal (i:=4) rfl (zak rfl BB4.o _ _ _) HWV.o (zae HB3.o (by omega) _ _ _) rfl
 | false=>
 have o2p:=of_decide_eq_false o2;have p4:=of_decide_eq_false o0;have p5:=of_decide_eq_false o1;have p6:=of_decide_eq_false o2;replace HSE:=zh (HSE.o.trans (if_neg (by omega)));obtain⟨n,hn⟩:∃n:Nat,d.len=n:=⟨d.len.toNat,by omega⟩;obtain⟨o,ho⟩:∃o:Nat,d.off=o:=⟨d.off.toNat,by omega⟩;obtain⟨e,he⟩:∃e:Nat,d.off+d.len=e:=⟨(d.off+d.len).toNat,by omega⟩;have HNO:=zh (And.intro hn (And.intro ho he));have HTN:=zh (show(d.off+d.len).toNat=e/\d.len.toNat=n/\d.off.toNat=o by omega);have he4:e<=4096:=by omega
 have hno4:n<=4096/\o<=4096:=by omega
 rw[HTN.o.1,HTN.o.2.1,HTN.o.2.2] at HSE;clear hn ho he HTN;go_wp2_with fail;rw[HNO.o.2.2];clear q0 q1 q2 z0 z1 z2 hl3;clear m0 m1 m2 n0 n1 n2 n3 o0 o1 o2 n0p n1p n2p n3p o0p o1p o2p p0 p1 p2 p3 p4 p5 p6 r0 r1 r2 r3 r4 r5 hl2
 go_loopw [87] (fun i wr=>∃k:Nat,k<=d.bufs.length/\i=.int .i64 k/\Hid (∀j (hj:j<d.bufs.length),j<k->decide (65536<d.bufs[j].size)=false)/\Hid (Below W2.heap.size W2 wr)) (fun i _=>d.bufs.length-(intOf i).toNat)
 case atStart=>exact⟨0,by omega,rfl,zh (fun j _ h=>absurd h (Nat.not_lt_zero _)),zh (Below.refl _ _)⟩
 case round=>
  obtain⟨k,hk,rfl,HA,HB⟩:=hrel;have HBw:=zh (HB2.o.trans (HB.o.mono HB2.o.size));have BBr:=zh (BB3.o.below HB.o BB3.o.lt);by_cases hlt:k<d.bufs.length
  ·obtain⟨b,ob,q,c,rfl,_,x0,_⟩:=zbI HBU.o k hlt;replace x0:=zaa HBw.o x0;have Bad:=zh (fun h:decide (65536<(d.bufs[k]'hlt).size)=true=>show zjw d.bufs=true from zog (q:=fun s:ByteArray=>decide (65536<s.size)) hlt h);have Next:=zh (fun h:decide (65536<(d.bufs[k]'hlt).size)=false=>show ∀j (hj:j<d.bufs.length),j<k+1->decide (65536<d.bufs[j].size)=false from fun j hj hjk=>by
    by_cases e:j=k
    ·subst e;exact h
    ·exact HA.o j hj (by omega))
   obtain⟨s,hs⟩:=nm ((d.bufs[k]'hlt).size);rw[<-hs] at x0 Bad Next;clear hs;cases hc:decide (65536<s) with
   | true=>
    have HE:=zh (show zaP f d=4 by rw[HSE.o,if_pos (Bad.o hc)]);have hcl:=of_decide_eq_true hc;have hci:decide ((65536:Int)<(s:Int))=true:=decide_eq_true (by omega);obtain⟨q0,q1,q2⟩:=rr3 BBr.o.row;obtain⟨z0,z1,z2⟩:=ff3 BBr.o;have hl3:=BBr.o.lt;go_wp2_with fail;refine(zar 4 k wr).mono ?_;rintro e WF ⟨dd,path,at',rfl,hw3,hb3⟩;have BB4:=zh (BBr.o.below hb3 BBr.o.lt);have HB3:=zh (HBw.o.trans (hb3.mono HBw.o.size));have HWV:=zh hw3;obtain⟨pq,pc,rfl,-⟩:=hw3;clear hb3;clear q0 q1 q2 z0 z1 z2 hl3;obtain⟨q0,q1,q2⟩:=rr3 BB4.o.row;obtain⟨z0,z1,z2⟩:=ff3 BB4.o;have hl3:=BB4.o.lt;go_wp2_with fail;rw[HE.o];exact zal (i:=4) rfl (zak rfl BB4.o _ _ _) HWV.o (zae HB3.o (by omega) _ _ _) rfl
   | false=>
    have HN:=zh (Next.o hc);have hcl:=of_decide_eq_false hc;have hci:decide ((65536:Int)<(s:Int))=false:=decide_eq_false (by omega);go_wp2_with fail;exact⟨⟨k+1,by omega,by go_num,HN,HB⟩,by simp[intOf];omega⟩
  ·replace HSE:=zh (HSE.o.trans (if_neg (by
    rw[show zjw d.bufs=false from zkU fun j hj=>HA.o j hj (by omega)];decide)))
   have B2r:=zh (B2.o.below HB.o B2.o.lt);have r3:=B2r.o.row 3 _ rfl;have hl2:=B2r.o.lt;have HFT:=zh (HMY.o HL.o.1);have hs3:s1<=3:=HFW.o;have hbl:d.bufs.length<=3:=by have:=HL.o.1;omega
   have hs0:0<=s1:=by have:=HL.o.1;omega
   go_wp2_with fail;clear r3 hl2
   go_loopw [101] (fun i wr=>∃k:Nat,k<=d.bufs.length/\i=.int .i64 k/\Hid (∀j (hj:j<d.bufs.length),j<k->decide ((d.bufs[j].size:Int)<zaB f (0+j) e d.bufs[j].size)=false)/\Hid (Below W2.heap.size W2 wr)) (fun i _=>d.bufs.length-(intOf i).toNat)
   case atStart=>exact⟨0,by omega,rfl,zh (fun j _ h=>absurd h (Nat.not_lt_zero _)),HB⟩
   case round=>
    obtain⟨k,hk,rfl,HA,HB⟩:=hrel;have HBw:=zh (HB2.o.trans (HB.o.mono HB2.o.size));have BBr:=zh (BB3.o.below HB.o BB3.o.lt);have B1r:=zh (B1.o.below HB.o B1.o.lt);by_cases hlt:k<d.bufs.length
    ·obtain⟨b,ob,q,c,rfl,_,x0,hby⟩:=zbI HBU.o k hlt;obtain⟨⟨-,hq1,hq2⟩,-⟩:=zaZ hby;replace x0:=zaa HBw.o x0;have Bad:=zh (fun h:decide (((d.bufs[k]'hlt).size:Int)<zaB f (0+k) e (d.bufs[k]'hlt).size)=true=>zfV (f:=f) (e:=e) (l:=d.bufs) (k:=0) hlt h);have Next:=zh (fun h:decide (((d.bufs[k]'hlt).size:Int)<zaB f (0+k) e (d.bufs[k]'hlt).size)=false=>show ∀j (hj:j<d.bufs.length),j<k+1->decide ((d.bufs[j].size:Int)<zaB f (0+j) e d.bufs[j].size)=false from fun j hj hjk=>by
      by_cases e':j=k
      ·subst e';exact h
      ·exact HA.o j hj (by omega))
     obtain⟨s,hs⟩:=nm ((d.bufs[k]'hlt).size);rw[<-hs] at x0 Bad Next hq1;rw[Nat.zero_add] at Bad Next;have HND:=zh (zl9 (HF.o.below HBw.o) (HS.o.below HBw.o) (HSW.o.below HBw.o) k e s (by omega) (by omega));obtain⟨nd,hnd⟩:=nm (zaB f k e s);rw[<-hnd] at Bad Next HND;have y2:=B1r.o.row 2 _ rfl;have y3:=B1r.o.row 3 _ rfl;have y4:=B1r.o.row 4 _ rfl;have y5:=B1r.o.row 5 _ rfl;have y6:=B1r.o.row 6 _ rfl;have hly:=B1r.o.lt;clear hs hnd hby;go_wp2_with fail;refine HND.o.mono ?_;rintro e' W3 ⟨rfl,hb3⟩;have HBv:=zh (HB.o.trans (hb3.mono HB.o.size));have HBwv:=zh (HBw.o.trans (hb3.mono HBw.o.size));have BBv:=zh (BBr.o.below hb3 BBr.o.lt);clear hb3 y2 y3 y4 y5 y6 hly x0;cases hc:decide ((s:Int)<nd) with
     | true=>
      have HE:=zh (show zaP f d=82 by rw[HSE.o,if_pos (Bad.o hc)]);have hcl:=of_decide_eq_true hc;clear Bad Next;obtain⟨q0,q1,q2⟩:=rr3 BBv.o.row;obtain⟨z0,z1,z2⟩:=ff3 BBv.o;have hl3:=BBv.o.lt;go_wp2_with fail;refine(zar 82 k W3).mono ?_;rintro e WF ⟨dd,path,at',rfl,hw3,hb3⟩;have BB4:=zh (BBv.o.below hb3 BBv.o.lt);have HB3:=zh (HBwv.o.trans (hb3.mono HBwv.o.size));have HWV:=zh hw3;obtain⟨pq,pc,rfl,-⟩:=hw3;clear hb3;clear q0 q1 q2 z0 z1 z2 hl3;obtain⟨q0,q1,q2⟩:=rr3 BB4.o.row;obtain⟨z0,z1,z2⟩:=ff3 BB4.o;have hl3:=BB4.o.lt;go_wp2_with fail;rw[HE.o];exact zal (i:=4) rfl (zak rfl BB4.o _ _ _) HWV.o (zae HB3.o (by omega) _ _ _) rfl
     | false=>
      have HN:=zh (Next.o hc);have hcl:=of_decide_eq_false hc;clear Bad Next;go_wp2_with fail;go_roundw
      case rel=>exact⟨k+1,by omega,by go_num,HN,HBv⟩
      case measure=>simp[intOf];omega
    ·replace HSE:=zh (HSE.o.trans (if_neg (by
      rw[zh7 (f:=f) (e:=e) (l:=d.bufs) (k:=0) fun j hj=>HA.o j hj (by omega)];decide)))
     have B2r:=zh (B2.o.below HB.o B2.o.lt);have r4:=B2r.o.row 4 _ rfl;have hl2:=B2r.o.lt;go_wp2_with fail;clear r4 hl2
     go_loopw [122] (fun i wr=>∃k:Nat,k<=d.kids.length/\i=.int .i64 k/\Hid (∀j (hj:j<d.kids.length),j<k->zey f e d.kids[j]=false)/\Hid (Below W2.heap.size W2 wr)) (fun i _=>d.kids.length-(intOf i).toNat)
     case atStart=>exact⟨0,by omega,rfl,zh (fun j _ h=>absurd h (Nat.not_lt_zero _)),HB⟩
     case round=>
      obtain⟨k,hk,rfl,HA,HB⟩:=hrel;have HBw:=zh (HB2.o.trans (HB.o.mono HB2.o.size));have BBr:=zh (BB3.o.below HB.o BB3.o.lt);have B1r:=zh (B1.o.below HB.o B1.o.lt);have B2r:=zh (B2.o.below HB.o B2.o.lt);by_cases hlt:k<d.kids.length
      ·obtain⟨b,ob,bp',bc',kp',kc',dp',dc',rfl,_,x0,x1,x2,x3,x4,x5,-⟩:=zci HKI.o k hlt;replace x0:=zaa HBw.o x0;replace x1:=zaa HBw.o x1;replace x2:=zaa HBw.o x2;replace x3:=zaa HBw.o x3;replace x4:=zaa HBw.o x4;replace x5:=zaa HBw.o x5;have Bad:=zh (fun h:zey f e (d.kids[k]'hlt)=true=>zog (q:=zey f e) hlt h);have Next:=zh (fun h:zey f e (d.kids[k]'hlt)=false=>show ∀j (hj:j<d.kids.length),j<k+1->zey f e d.kids[j]=false from fun j hj hjk=>by
        by_cases e':j=k
        ·subst e';exact h
        ·exact HA.o j hj (by omega))
       obtain⟨pd,hpd⟩:=nm (d.kids[k]'hlt);rw[<-hpd] at x0 x1 x2 x3 x4 x5 Bad Next;have HKB:=zh (show zey f e pd=((decide (f.k=16) && decide (pd.len<(e:Int)*f.wd)) || (decide (f.k=17) && decide (pd.len<(e:Int)))) from rfl);have y2:=B1r.o.row 2 _ rfl;have y3:=B1r.o.row 3 _ rfl;have hly:=B1r.o.lt;obtain⟨V,hV⟩:=nm (wr.alloc (.cells #[.int .i64 pd.len,.int .i64 pd.off,.int .i64 pd.nul,.slice bp' pd.bufs.length bc',.slice kp' pd.kids.length kc',.slice dp' pd.dict.length dc'] 46));have hbV:Below wr.heap.size wr V:=by rw[hV];exact(Below.refl _ _).alloc (Nat.le_refl _) _
       have HV:=zh hV;have HBv:=zh (HB.o.trans (hbV.mono HB.o.size));have HBwv:=zh (HBw.o.trans (hbV.mono HBw.o.size));have BBv:=zh (BBr.o.below hbV BBr.o.lt);clear hpd hV hbV;cases q16:(f.k == 16) with
       | true=>
        have e16:f.k=16:=by simpa using q16
        have hwd:=zfK HFT.o e16;have hp1:0<=(e:Int)*f.wd:=Int.mul_nonneg (by omega) (by omega);have hp2:(e:Int)*f.wd<=4096*64:=Int.mul_le_mul (by omega) hwd.2 (by omega) (by omega);cases hc:decide (pd.len<(e:Int)*f.wd) with
        | true=>
         have HE:=zh (show zaP f d=82 by rw[HSE.o,if_pos (Bad.o (by rw[HKB.o,decide_eq_true e16,hc];rfl))]);have hcl:=of_decide_eq_true hc;clear Bad Next HKB e16;obtain⟨q0,q1,q2⟩:=rr3 BBv.o.row;obtain⟨z0,z1,z2⟩:=ff3 BBv.o;have hl3:=BBv.o.lt;go_wp2_with fail;rw[<-HV.o];refine(zar 82 _ V).mono ?_;rintro e WF ⟨dd,path,at',rfl,hw3,hb3⟩;have BB4:=zh (BBv.o.below hb3 BBv.o.lt);have HB3:=zh (HBwv.o.trans (hb3.mono HBwv.o.size));have HWV:=zh hw3;obtain⟨pq,pc,rfl,-⟩:=hw3;clear hb3;clear q0 q1 q2 z0 z1 z2 hl3;obtain⟨q0,q1,q2⟩:=rr3 BB4.o.row;obtain⟨z0,z1,z2⟩:=ff3 BB4.o;have hl3:=BB4.o.lt;go_wp2_with fail;rw[HE.o];exact zal (i:=4) rfl (zak rfl BB4.o _ _ _) HWV.o (zae HB3.o (by omega) _ _ _) rfl
        | false=>
         have HN:=zh (Next.o (by rw[HKB.o,hc,show decide (f.k=17)=false from decide_eq_false (by omega),Bool.and_false,Bool.false_and];rfl));have hcl:=of_decide_eq_false hc;have q17:(f.k == 17)=false:=by simp;omega
         clear Bad Next HKB e16;go_wp2_with fail;rw[<-HV.o];go_roundw
         case rel=>exact⟨k+1,by omega,by go_num,HN,HBv⟩
         case measure=>simp[intOf];omega
       | false=>
        have e16:¬f.k=16:=by simpa using q16
        cases q17:(f.k == 17) with
        | true=>
         have e17:f.k=17:=by simpa using q17
         cases hc:decide (pd.len<(e:Int)) with
         | true=>
          have HE:=zh (show zaP f d=82 by rw[HSE.o,if_pos (Bad.o (by rw[HKB.o,decide_eq_true e17,hc,Bool.true_and,Bool.or_true]))]);have hcl:=of_decide_eq_true hc;clear Bad Next HKB e16 e17;obtain⟨q0,q1,q2⟩:=rr3 BBv.o.row;obtain⟨z0,z1,z2⟩:=ff3 BBv.o;have hl3:=BBv.o.lt;go_wp2_with fail;rw[<-HV.o];refine(zar 82 _ V).mono ?_;rintro e WF ⟨dd,path,at',rfl,hw3,hb3⟩;have BB4:=zh (BBv.o.below hb3 BBv.o.lt);have HB3:=zh (HBwv.o.trans (hb3.mono HBwv.o.size));have HWV:=zh hw3;obtain⟨pq,pc,rfl,-⟩:=hw3;clear hb3;clear q0 q1 q2 z0 z1 z2 hl3;obtain⟨q0,q1,q2⟩:=rr3 BB4.o.row;obtain⟨z0,z1,z2⟩:=ff3 BB4.o;have hl3:=BB4.o.lt;go_wp2_with fail;rw[HE.o];exact zal (i:=4) rfl (zak rfl BB4.o _ _ _) HWV.o (zae HB3.o (by omega) _ _ _) rfl
         | false=>
          have HN:=zh (Next.o (by rw[HKB.o,hc,decide_eq_false e16,Bool.and_false,Bool.false_and];rfl));have hcl:=of_decide_eq_false hc;clear Bad Next HKB e16 e17;go_wp2_with fail;rw[<-HV.o];go_roundw
          case rel=>exact⟨k+1,by omega,by go_num,HN,HBv⟩
          case measure=>simp[intOf];omega
        | false=>
         have e17:¬f.k=17:=by simpa using q17
         have HN:=zh (Next.o (by rw[HKB.o,decide_eq_false e16,decide_eq_false e17,Bool.false_and,Bool.false_and];rfl));clear Bad Next HKB e16 e17;go_wp2_with fail;rw[<-HV.o];go_roundw
         case rel=>exact⟨k+1,by omega,by go_num,HN,HBv⟩
         case measure=>simp[intOf];omega
      ·replace HSE:=zh (HSE.o.trans (if_neg (by
        rw[zkU (q:=zey f e) (l:=d.kids) fun j hj=>HA.o j hj (by omega)];decide)))
       obtain⟨x0,x1,x2,x3,x4,x5,x6⟩:=rr7 B1r.o.row;obtain⟨y0,y1,y2,y3,y4,y5⟩:=rr6 B2r.o.row;have hl1:=B1r.o.lt;have hl2:=B2r.o.lt;obtain⟨q0,q1,q2⟩:=rr3 BBr.o.row;obtain⟨z0,z1,z2⟩:=ff3 BBr.o;have hl3:=BBr.o.lt;have HNU:=zh (zjt (HF.o.below HBw.o) (HD.o.below HBw.o) (HSV.o HL.o.1) HNO.o.1 HNO.o.2.1 ⟨by omega,by omega⟩);go_wp2_with fail;refine HNU.o.mono ?_;rintro e' WF ⟨dd,path,at',rfl,hw3,hb3⟩;have BB4:=zh (BBr.o.below hb3 BBr.o.lt);have HB3:=zh (HBw.o.trans (hb3.mono HBw.o.size));have HWV:=zh hw3;obtain⟨pq,pc,rfl,-⟩:=hw3;clear hb3 x0 x1 x2 x3 x4 x5 x6 y0 y1 y2 y3 y4 y5 hl1 hl2;clear q0 q1 q2 z0 z1 z2 hl3;obtain⟨q0,q1,q2⟩:=rr3 BB4.o.row;obtain⟨z0,z1,z2⟩:=ff3 BB4.o;have hl3:=BB4.o.lt;go_wp2_with fail;rw[HSE.o];exact zal (i:=4) rfl (zak rfl BB4.o _ _ _) HWV.o (zae HB3.o (by omega) _ _ _) rfl
def zbn (s:ByteArray)(a:Nat):Nat->Int
 | 0=>0
 | n+1=>bits BinOp.or IntKind.u64 (zbn s a n) (IntKind.u64.wrap (zaq s (a+n)*2 ^ (8*n)))
theorem zd4 (s:ByteArray)(a:Nat):∀n,0<=zbn s a n/\zbn s a n<=18446744073709551615
 | 0=>by unfold zbn;omega
 | n+1=>bits_within .or .u64 _ _
def zcG (f:Fd)(d:Dt)(s:ByteArray)(r:Nat):Int:=
 if(f.ix<=6/\127<zaq s (r*(zaK f.ix).toNat+((zaK f.ix).toNat-1)))\/(if((d.dict[0]?).map Dt.len).getD 0<0 then 0 else((d.dict[0]?).map Dt.len).getD 0)<=zbn s (r*(zaK f.ix).toNat) (zaK f.ix).toNat then -1
 else zbn s (r*(zaK f.ix).toNat) (zaK f.ix).toNat
theorem zhe {f:Fd}{d:Dt}{s:ByteArray}{r n:Nat}(hn:zaK f.ix=n)(hd:0<d.dict.length):zcG f d s r=if(f.ix<=6/\127<zaq s (r*n+(n-1)))\/(if d.dict[0].len<0 then(0:Int) else d.dict[0].len)<=zbn s (r*n) n then(-1:Int) else zbn s (r*n) n:=by
 unfold zcG;rw[hn,Int.toNat_natCast,List.getElem?_eq_getElem hd];rfl
theorem zhf {w:World}{f:Fd}{d:Dt}{fs ds:List Value}(hf:FdAt w f fs)(hd:DAt (fun _=>True) w d ds)(r:Nat)(hdd:0<d.dict.length)(hbb:1<d.bufs.length)(n:Nat)(hn:zaK f.ix=n)(hn1:1<=n)
  (hs:(r+1)*n<=d.bufs[1].size) (hlb:zah d.dict[0].len) :
  Calls Tryz.prog 89 #[.agg fs.toArray,.agg ds.toArray,.int .i64 r] w (zga w (zcG f d d.bufs[1] r)):=by
 have HF:=zh hf;have HD:=zh hd;obtain⟨fp,fc,rfl,-,-,-,-,-,hix⟩:=hf.shape;obtain⟨bp,bc,kp,kc,dp,dc,rfl,hbu,hki,hdi⟩:=hd.shape;obtain⟨-,hb1,hb2⟩:=zam hbu;obtain⟨-,hd1,hd2⟩:=zam hdi;simp only[List.length_map] at hb1 hd1;unfold maxLen at hb2 hd2;obtain⟨bb,bo,bq,bcp,rfl,-,hbc,hby⟩:=zbI hbu 1 hbb;obtain⟨⟨-,hz1,hz2⟩,hz⟩:=zaZ hby;unfold maxLen at hz2;obtain⟨db,do',dbp,dbc,dkp,dkc,ddp,ddc,rfl,-,hdk⟩:=zci hdi 0 hdd;have HZ:=zh hz;have HDK:=zh hdk;have HBC:=zh hbc;have HIX:=zh hix;have HN:=zh hn;clear hf hd hbu hki hdi hz hdk hbc hby hix hn;obtain⟨W,hW,a1,a2,hBW⟩:=zbt w 26 (f7 f fp fc) 46 [.int .i64 d.len,.int .i64 d.off,.int .i64 d.nul,.slice (some ⟨bb,bo,none⟩) d.bufs.length bc,.slice kp d.kids.length kc,.slice (some ⟨db,do',none⟩) d.dict.length dc];have A1:=zh a1;have A2:=zh a2;have HBW:=zh hBW;have HW:=zh hW;clear a1 a2 hBW hW;have b5:=(A1.o.row 5 _ rfl);have b3:=(A2.o.row 3 _ rfl);have b0:=(A2.o.row 5 _ rfl);have hl1:=A1.o.lt;have hl2:=A2.o.lt;obtain⟨ry,hry⟩:=nm (r*n);have hs1:(r+1)*n=ry+n:=by rw[hry,Nat.add_mul,Nat.one_mul]
 have HN8:n<=8:=by
  have:zaK f.ix<=8:=by unfold zaK;repeat (first|(split;omega)|omega)
  rw[HN.o] at this;omega
 have hs2:ry+n<=d.bufs[1].size:=by omega
 have hrn:r<=ry:=by rw[hry];exact Nat.le_mul_of_pos_right r (by omega)
 obtain⟨x0b,x0o,rfl,-,x0⟩:=HZ.o (ry) (by omega);have HX:Hid (∀j,j<n->W.cell? ⟨x0b,x0o+ry+j,none⟩=some (.int .u8 (zaq d.bufs[1] (ry+j)))):=zh (fun j hj=>by
  obtain⟨b',o',e',-,x'⟩:=HZ.o (ry+j) (by omega);cases e';rw[<-Nat.add_assoc] at x';exact zaa HBW.o x')
 have t1:W.cell? ⟨bb,bo+1,none⟩=some (.slice (some ⟨x0b,x0o,none⟩) d.bufs[1].size bcp):=zaa HBW.o HBC.o;have t2:W.cell? ⟨db,do',none⟩=some (.int .i64 d.dict[0].len):=zaa HBW.o HDK.o.1;have HR:=zh hry;clear x0 hs hs1 hry
 go_in
 go_wp2_with fail;rw[<-HW.o];clear HW;refine(zfU f.ix W).mono ?_;rintro e W2 ⟨rfl,rfl⟩;rw[HN.o];have m1:(r:Int)*(n:Int)=(ry:Int):=by rw[HR.o];exact(Int.natCast_mul r n).symm
 have m2:((r:Int)+1)*(n:Int)=(ry:Int)+n:=by rw[Int.add_mul,m1,Int.one_mul]
 have M1:Hid (wrap64 ((r:Int)*n)=ry):=zh (by rw[m1];unfold wrap64;omega);go_wp2_with fail;rw[show ry+n-ry=n by omega];clear M1 m1 m2;obtain⟨cq,hcq⟩:=nm (bcp-ry);rw[<-hcq];have HCQ:=zh hcq;have HS2:=zh hs2;have g1:n<=cq:=by omega
 have g2:cq<=2 ^ 63-1:=by omega
 obtain⟨A,hA⟩:=nm (x0o+ry);rw[<-hA] at HX ⊢;clear hcq hs2 hA;have HLE:=zh (show zbn d.bufs[1] ry 0=0 from rfl)
 go_loop [31,9] (fun i t=>∃k:Nat,k<=n/\i=.int .i64 k/\t=.int .u64 (zbn d.bufs[1] ry k)) (fun i _=>n-(intOf i).toNat)
 case atStart=>exact⟨0,by omega,rfl,by rw[HLE.o]⟩
 case round=>
  obtain⟨k,hk,rfl,rfl⟩:=hrel;by_cases hlt:k<n
  ·have xk:=HX.o k hlt;have hbb:=za1 d.bufs[1] (ry+k);obtain⟨v,hv⟩:=nm (zaq d.bufs[1] (ry+k));have HST:=zh (show zbn d.bufs[1] ry (k+1)=bits BinOp.or IntKind.u64 (zbn d.bufs[1] ry k) (IntKind.u64.wrap (v*2 ^ (8*k))) by rw[hv];rfl);rw[<-hv] at xk hbb;clear hv;go_simp;go_wp2_with fail;refine⟨⟨.int .u64 (zbn d.bufs[1] ry (k+1)),_,_,.int .i64 ((k+1:Nat):Int),⟨k+1,by omega,rfl,rfl⟩,by rw[HST.o],rfl,rfl,by go_num⟩,by simp only[intOf];omega⟩
  ·obtain rfl:n=k:=by omega
   have xk:=HX.o (n-1) (by omega);have hbb:=za1 d.bufs[1] (ry+(n-1));obtain⟨v,hv⟩:=nm (zaq d.bufs[1] (ry+(n-1)));rw[<-hv] at xk hbb;have HV:=zh hv;clear hv;have r5:=A1.o.row 5 _ rfl;have r5':=A2.o.row 5 _ rfl;have hxb:=zd4 d.bufs[1] ry n;obtain⟨x,hx⟩:=nm (zbn d.bufs[1] ry n);rw[<-hx] at hxb ⊢;have HX:=zh hx;clear hx;have HB:=zh hlb;have HE:Hid (zcG f d d.bufs[1] r=if(f.ix<=6/\127<v)\/(if d.dict[0].len<0 then(0:Int) else d.dict[0].len)<=x then(-1:Int) else x):=zh (by
    rw[zhe HN.o hdd,<-HR.o,<-HV.o,<-HX.o])
   obtain⟨l0,hl0⟩:=nm (d.dict[0].len);rw[<-hl0] at HE HB t2;clear hl0 hlb;obtain⟨D,hD⟩:=nm (if l0<0 then 0 else l0);rw[<-hD] at HE;have HB':=HB.o;unfold zah at HB';have hDB:0<=D/\D<=9223372036854775807:=by rw[hD];split <;> omega
   have HD':Hid (IntKind.u64.wrap (if l0<0 then 0 else l0)=D):=zh (by rw[<-hD];show D % 18446744073709551616=D;omega);clear hD;have HXB:=zh hxb;have HDB:=zh hDB;clear hxb HB' hDB;cases q6:decide (f.ix<=6) with
   | true=>
    have q6':f.ix<=6:=by simpa using q6
    cases qv:decide (127<v) with
    | true=>
     have qv':127<v:=by simpa using qv
     go_wp2_with fail;go_ret;exact zbb (by rw[HE.o,if_pos (.inl ⟨q6',qv'⟩)]) HBW.o
    | false=>
     have qv':¬127<v:=by simpa using qv
     have hq:¬(f.ix<=6/\127<v):=fun q=>qv' q.2;have HQ:=zh hq;clear hq;go_wp2_with fail
     all_goals
      rename_i hX _
      rw[HD'.o] at hX;go_ret
      first
       | exact zbb (by rw[HE.o,if_pos (.inr (by omega))]) HBW.o
       | exact zbb (by have:=HXB.o;have:=HDB.o;rw[HE.o,if_neg (by rintro(q|q);exact HQ.o q;omega)];unfold wrap64;omega) HBW.o
   | false=>
    have q6':¬f.ix<=6:=by simpa using q6
    have hq:¬(f.ix<=6/\127<v):=fun q=>q6' q.1;have HQ:=zh hq;clear hq;go_wp2_with fail
    all_goals
     rename_i hX _
     rw[HD'.o] at hX;go_ret
     first
      | exact zbb (by rw[HE.o,if_pos (.inr (by omega))]) HBW.o
      | exact zbb (by have:=HXB.o;have:=HDB.o;rw[HE.o,if_neg (by rintro(q|q);exact HQ.o q;omega)];unfold wrap64;omega) HBW.o
def zcs (s:ByteArray)(o:Nat):Nat->Int
 | 0=>0
 | k+1=>s32 s (o+k)
def upB (s:ByteArray)(o:Nat):Nat->Bool
 | 0=>true
 | k+1=>upB s o k && decide (zcs s o k<s32 s (o+k))
def zbO (a b:Dt)(n:Int):Int:=if a.len≠b.len then 6 else if upB ((a.bufs[1]?).getD ByteArray.empty) a.off.toNat a.len.toNat=false then 87 else if zcs ((a.bufs[1]?).getD ByteArray.empty) a.off.toNat a.len.toNat<n then 87 else 0
theorem zjX {s:ByteArray}{o k:Nat}(h:upB s o k=false):∀ {n},k<=n->upB s o n=false:=by
 intro n hn
 induction n with
 | zero=>
  obtain rfl:k=0:=by omega
  exact h
 | succ n ih=>
  by_cases hk:k=n+1
  ·rw[<-hk];exact h
  ·unfold upB;rw[ih (by omega)];rfl
def zgo (W:World)(rb:Nat)(c0 c1 c2 c3 c4 c5:Value):World:=
 (((((W.setCell ⟨rb,0,none⟩ c0).setCell ⟨rb,1,none⟩ c1).setCell ⟨rb,2,none⟩ c2).setCell ⟨rb,3,none⟩ c3).setCell ⟨rb,4,none⟩ c4).setCell ⟨rb,5,none⟩ c5
theorem zfv {W:World}{rb:Nat}{t:TypeId}{l:List Value}(hl:l.length=6)(h:BoxN W rb t l)(c0 c1 c2 c3 c4 c5:Value):BoxN (zgo W rb c0 c1 c2 c3 c4 c5) rb t [c0,c1,c2,c3,c4,c5]:=by
 have b:=(((((h.set 0 c0).set 1 c1).set 2 c2).set 3 c3).set 4 c4).set 5 c5
 match l,hl with
 | [_,_,_,_,_,_],_=>exact b
theorem zbJ {W:World}{rb k:Nat}(hk:k≠rb)(c0 c1 c2 c3 c4 c5:Value):(zgo W rb c0 c1 c2 c3 c4 c5).heap[k]?=W.heap[k]?:=by
 unfold zgo;rw[Below.heap_setCell _ _ _ k hk,Below.heap_setCell _ _ _ k hk,Below.heap_setCell _ _ _ k hk,Below.heap_setCell _ _ _ k hk,Below.heap_setCell _ _ _ k hk,Below.heap_setCell _ _ _ k hk]
theorem zez {W w:World}{n rb:Nat}(h:Below n w W)(hn:n<=rb)(c0 c1 c2 c3 c4 c5:Value):Below n w (zgo W rb c0 c1 c2 c3 c4 c5):=
 (((((h.setCell (p:=⟨rb,0,none⟩) hn c0).setCell (p:=⟨rb,1,none⟩) hn c1).setCell (p:=⟨rb,2,none⟩) hn c2).setCell (p:=⟨rb,3,none⟩) hn c3).setCell (p:=⟨rb,4,none⟩) hn c4).setCell (p:=⟨rb,5,none⟩) hn c5
def zkV (n0:Nat)(v4:Value)(kb ko:Nat)(ra rb:List Value)(w:World):Prop:=w.cell? ⟨n0,4,none⟩=some v4/\(∀j u,ra[j]?=some u->w.cell? ⟨kb,ko+j,none⟩=some u)/\∀j u,rb[j]?=some u->w.cell? ⟨kb,ko+6+j,none⟩=some u
theorem znb {w:World}{d a b:Dt}{ds:List Value}(hd:DAt (fun _=>True) w d ds)(hk:1<d.kids.length)(ha:d.kids[0]=a)(hb:d.kids[1]=b)
  (n o m p:Nat) (hn:a.len=n) (ho:a.off=o) (hm:d.len=m) (hp:d.off=p) (L:Nat) (hL:p+m=L) (hpm:L<=9223372036854775807) (hbb:1<a.bufs.length) (hs:4*(o+n)<=a.bufs[1].size) :
  Calls Tryz.prog 69 #[.agg ds.toArray] w (zcP w (zbO a b (L:Int))):=by
 have HD:=zh hd;obtain⟨bp,bc,kp,kc,dp,dc,rfl,hbu,hki,hdi⟩:=hd.shape;obtain⟨-,hk1,hk2⟩:=zam hki;simp only[List.length_map] at hk1;unfold maxLen at hk2;obtain⟨kb,ko,abp,abc,akp,akc,adp,adc,rfl,-,a0,a1,a2,a3,a4,a5,hAA⟩:=zci hki 0 (by omega);obtain⟨kb',ko',bbp,bbc,bkp,bkc,bdp,bdc,e',-,b0,b1,b2,b3,b4,b5,hBB⟩:=zci hki 1 hk;cases e';rw[ha] at a0 a1 a2 a3 a4 a5 hAA;rw[hb] at b0 b1 b2 b3 b4 b5 hBB;rw[hn] at a0;rw[ho] at a1;rw[Nat.zero_mul,Nat.add_zero] at a0 a1 a2 a3 a4 a5;rw[Nat.one_mul] at b0 b1 b2 b3 b4 b5;obtain⟨_,_,_,_,_,_,eaa,hab,-,-⟩:=hAA.shape;cases eaa;obtain⟨yb,yo,yq,yc,rfl,-,ybc,yby⟩:=zbI hab 1 hbb;obtain⟨⟨-,hy1,hy2⟩,-⟩:=zaZ yby;unfold maxLen at hy2;have HYC:=zh ybc;have HYB:=zh yby;clear hab ybc yby hAA;have HA:Hid (∀j u,[.int .i64 n,.int .i64 o,.int .i64 a.nul,.slice (some ⟨yb,yo,none⟩) a.bufs.length abc,.slice akp a.kids.length akc,.slice adp a.dict.length adc][j]?=some u->w.cell? ⟨kb,ko+j,none⟩=some u):=zh (fun j u e=>by
  match j,e with
  | 0,e=>cases e;exact a0
  | 1,e=>cases e;exact a1
  | 2,e=>cases e;exact a2
  | 3,e=>cases e;exact a3
  | 4,e=>cases e;exact a4
  | 5,e=>cases e;exact a5)
 have HB:Hid (∀j u,(d6 b bbp bbc bkp bkc bdp bdc)[j]?=some u->w.cell? ⟨kb,ko+6+j,none⟩=some u):=zh (fun j u e=>by
  match j,e with
  | 0,e=>cases e;exact b0
  | 1,e=>cases e;exact b1
  | 2,e=>cases e;exact b2
  | 3,e=>cases e;exact b3
  | 4,e=>cases e;exact b4
  | 5,e=>cases e;exact b5)
 clear a0 a1 a2 a3 a4 a5 b0 b1 b2 b3 b4 b5;have hk0:0<d.kids.length:=by omega
 have hk01:(1:Int)<(d.kids.length:Int):=by omega
 clear hd hbu hki hdi hBB;rw[hm,hp];have HNN:=zh hn;have HOO:=zh ho;have HMM:=zh hm;have HPP:=zh hp;have HKA:=zh ha;have HKB:=zh hb;clear hn ho hm hp ha hb;obtain⟨W,hW,x1,x2,hBW⟩:=zbt w 46 [.int .i64 m,.int .i64 p,.int .i64 d.nul,.slice bp d.bufs.length bc,.slice (some ⟨kb,ko,none⟩) d.kids.length kc,.slice dp d.dict.length dc] 69 [.int .i64 0,.slice none 0 0,.int .i64 0];have X1:=zh x1;have X2:=zh x2;have HBW:=zh hBW;have HW:=zh hW;clear x1 x2 hBW hW
 go_in
 go_wp2_with fail;rw[<-HW.o];have hsz:W.heap.size=w.heap.size+2:=by rw[HW.o];simp
 have HSZ:=zh hsz;clear HW hsz;have s0:zkV w.heap.size (.slice (some ⟨kb,ko,none⟩) d.kids.length kc) kb ko [.int .i64 n,.int .i64 o,.int .i64 a.nul,.slice (some ⟨yb,yo,none⟩) a.bufs.length abc,.slice akp a.kids.length akc,.slice adp a.dict.length adc] (d6 b bbp bbc bkp bkc bdp bdc) W:=by
  have g:zkV w.heap.size (.slice (some ⟨kb,ko,none⟩) d.kids.length kc) kb ko [.int .i64 n,.int .i64 o,.int .i64 a.nul,.slice (some ⟨yb,yo,none⟩) a.bufs.length abc,.slice akp a.kids.length akc,.slice adp a.dict.length adc] (d6 b bbp bbc bkp bkc bdp bdc) W:=⟨X1.o.row 4 _ rfl,fun j u e=>zaa HBW.o (HA.o j u e),fun j u e=>zaa HBW.o (HB.o j u e)⟩;exact g
 have HS0:=zh (show zkV w.heap.size (.slice (some ⟨kb,ko,none⟩) d.kids.length kc) kb ko [.int .i64 n,.int .i64 o,.int .i64 a.nul,.slice (some ⟨yb,yo,none⟩) a.bufs.length abc,.slice akp a.kids.length akc,.slice adp a.dict.length adc] (d6 b bbp bbc bkp bkc bdp bdc) W.drew from s0);clear s0;refine Late.region (zkV w.heap.size (.slice (some ⟨kb,ko,none⟩) d.kids.length kc) kb ko [.int .i64 n,.int .i64 o,.int .i64 a.nul,.slice (some ⟨yb,yo,none⟩) a.bufs.length abc,.slice akp a.kids.length akc,.slice adp a.dict.length adc] (d6 b bbp bbc bkp bkc bdp bdc)) (fun _=>false) (by kernel_rfl) ?_;refine Late.ta (i:=0) (v:=?_) ?_ HS0.o ?_;rotate_left
 ·intro w' hS;obtain⟨h4,hA,hB⟩:=hS;have a0:w'.cell? ⟨kb,ko,none⟩=some _:=hA 0 _ rfl;have a1:=hA 1 _ rfl;have a2:=hA 2 _ rfl;have a3:=hA 3 _ rfl;have a4:=hA 4 _ rfl;have a5:=hA 5 _ rfl;have b0:w'.cell? ⟨kb,ko+6,none⟩=some _:=hB 0 _ rfl;have b1:=hB 1 _ rfl;have b2:=hB 2 _ rfl;have b3:=hB 3 _ rfl;have b4:=hB 4 _ rfl;have b5:=hB 5 _ rfl;clear hA hB;go_simp;rfl
 refine Late.ta (i:=1) (v:=?_) ?_ HS0.o ?_;rotate_left
 ·intro w' hS;obtain⟨h4,hA,hB⟩:=hS;have a0:w'.cell? ⟨kb,ko,none⟩=some _:=hA 0 _ rfl;have a1:=hA 1 _ rfl;have a2:=hA 2 _ rfl;have a3:=hA 3 _ rfl;have a4:=hA 4 _ rfl;have a5:=hA 5 _ rfl;have b0:w'.cell? ⟨kb,ko+6,none⟩=some _:=hB 0 _ rfl;have b1:=hB 1 _ rfl;have b2:=hB 2 _ rfl;have b3:=hB 3 _ rfl;have b4:=hB 4 _ rfl;have b5:=hB 5 _ rfl;clear hA hB;go_simp;rfl
 refine Late.ta (i:=2) (v:=?_) ?_ HS0.o ?_;rotate_left
 ·intro w' hS;obtain⟨h4,hA,hB⟩:=hS;have a0:w'.cell? ⟨kb,ko,none⟩=some _:=hA 0 _ rfl;have a1:=hA 1 _ rfl;have a2:=hA 2 _ rfl;have a3:=hA 3 _ rfl;have a4:=hA 4 _ rfl;have a5:=hA 5 _ rfl;have b0:w'.cell? ⟨kb,ko+6,none⟩=some _:=hB 0 _ rfl;have b1:=hB 1 _ rfl;have b2:=hB 2 _ rfl;have b3:=hB 3 _ rfl;have b4:=hB 4 _ rfl;have b5:=hB 5 _ rfl;clear hA hB;go_simp;rfl
 refine Late.ta (i:=3) (v:=?_) ?_ HS0.o ?_;rotate_left
 ·intro w' hS;obtain⟨h4,hA,hB⟩:=hS;have a0:w'.cell? ⟨kb,ko,none⟩=some _:=hA 0 _ rfl;have a1:=hA 1 _ rfl;have a2:=hA 2 _ rfl;have a3:=hA 3 _ rfl;have a4:=hA 4 _ rfl;have a5:=hA 5 _ rfl;have b0:w'.cell? ⟨kb,ko+6,none⟩=some _:=hB 0 _ rfl;have b1:=hB 1 _ rfl;have b2:=hB 2 _ rfl;have b3:=hB 3 _ rfl;have b4:=hB 4 _ rfl;have b5:=hB 5 _ rfl;clear hA hB;go_simp;rfl
 refine Late.ta (i:=4) (v:=?_) ?_ HS0.o ?_;rotate_left
 ·intro w' hS;obtain⟨h4,hA,hB⟩:=hS;have a0:w'.cell? ⟨kb,ko,none⟩=some _:=hA 0 _ rfl;have a1:=hA 1 _ rfl;have a2:=hA 2 _ rfl;have a3:=hA 3 _ rfl;have a4:=hA 4 _ rfl;have a5:=hA 5 _ rfl;have b0:w'.cell? ⟨kb,ko+6,none⟩=some _:=hB 0 _ rfl;have b1:=hB 1 _ rfl;have b2:=hB 2 _ rfl;have b3:=hB 3 _ rfl;have b4:=hB 4 _ rfl;have b5:=hB 5 _ rfl;clear hA hB;go_simp;rfl
 refine Late.ta (i:=5) (v:=?_) ?_ HS0.o ?_;rotate_left
 ·intro w' hS;obtain⟨h4,hA,hB⟩:=hS;have a0:w'.cell? ⟨kb,ko,none⟩=some _:=hA 0 _ rfl;have a1:=hA 1 _ rfl;have a2:=hA 2 _ rfl;have a3:=hA 3 _ rfl;have a4:=hA 4 _ rfl;have a5:=hA 5 _ rfl;have b0:w'.cell? ⟨kb,ko+6,none⟩=some _:=hB 0 _ rfl;have b1:=hB 1 _ rfl;have b2:=hB 2 _ rfl;have b3:=hB 3 _ rfl;have b4:=hB 4 _ rfl;have b5:=hB 5 _ rfl;clear hA hB;go_simp;rfl
 refine Late.ta (i:=6) (v:=?_) ?_ HS0.o ?_;rotate_left
 ·intro w' hS;obtain⟨h4,hA,hB⟩:=hS;have a0:w'.cell? ⟨kb,ko,none⟩=some _:=hA 0 _ rfl;have a1:=hA 1 _ rfl;have a2:=hA 2 _ rfl;have a3:=hA 3 _ rfl;have a4:=hA 4 _ rfl;have a5:=hA 5 _ rfl;have b0:w'.cell? ⟨kb,ko+6,none⟩=some _:=hB 0 _ rfl;have b1:=hB 1 _ rfl;have b2:=hB 2 _ rfl;have b3:=hB 3 _ rfl;have b4:=hB 4 _ rfl;have b5:=hB 5 _ rfl;clear hA hB;go_simp;rfl
 refine Late.ta (i:=7) (v:=?_) ?_ HS0.o ?_;rotate_left
 ·intro w' hS;obtain⟨h4,hA,hB⟩:=hS;have a0:w'.cell? ⟨kb,ko,none⟩=some _:=hA 0 _ rfl;have a1:=hA 1 _ rfl;have a2:=hA 2 _ rfl;have a3:=hA 3 _ rfl;have a4:=hA 4 _ rfl;have a5:=hA 5 _ rfl;have b0:w'.cell? ⟨kb,ko+6,none⟩=some _:=hB 0 _ rfl;have b1:=hB 1 _ rfl;have b2:=hB 2 _ rfl;have b3:=hB 3 _ rfl;have b4:=hB 4 _ rfl;have b5:=hB 5 _ rfl;clear hA hB;go_simp;rfl
 have SS:∀Z:World,BoxN Z w.heap.size 46 [.int .i64 m,.int .i64 p,.int .i64 d.nul,.slice bp d.bufs.length bc,.slice (some ⟨kb,ko,none⟩) d.kids.length kc,.slice dp d.dict.length dc]->Below w.heap.size w Z->zkV w.heap.size (.slice (some ⟨kb,ko,none⟩) d.kids.length kc) kb ko [.int .i64 n,.int .i64 o,.int .i64 a.nul,.slice (some ⟨yb,yo,none⟩) a.bufs.length abc,.slice akp a.kids.length akc,.slice adp a.dict.length adc] (d6 b bbp bbc bkp bkc bdp bdc) Z.drew:=fun Z h1 h2=>⟨h1.row 4 _ rfl,fun j u e=>zaa h2 (HA.o j u e),fun j u e=>zaa h2 (HB.o j u e)⟩;refine Late.two (i:=8) (k:=9) (by kernel_rfl) rfl rfl (fun K hK=>?_) (fun K hK=>?_)
 ·go_simp;obtain⟨Y1,hY1⟩:=nm (W.alloc (.cells #[.int .i64 0,.int .i64 0,.int .i64 0,.slice none 0 0,.slice none 0 0,.slice none 0 0] 46));have c0:BoxN Y1 w.heap.size 46 [.int .i64 m,.int .i64 p,.int .i64 d.nul,.slice bp d.bufs.length bc,.slice (some ⟨kb,ko,none⟩) d.kids.length kc,.slice dp d.dict.length dc]:=by rw[hY1];exact X1.o.alloc _
  have c1:BoxN Y1 (w.heap.size+1) 69 [.int .i64 0,.slice none 0 0,.int .i64 0]:=by rw[hY1];exact X2.o.alloc _
  have c2:BoxN Y1 W.heap.size 46 [Value.int .i64 0,.int .i64 0,.int .i64 0,.slice none 0 0,.slice none 0 0,.slice none 0 0]:=by rw[hY1];exact BoxN.new W 46 _
  have hB1:Below w.heap.size w Y1:=by rw[hY1];exact HBW.o.alloc HBW.o.size _
  have hs1:Y1.heap.size=W.heap.size+1:=by rw[hY1];simp
  rw[<-hY1];clear hY1;refine hK _ _ (fun _=>SS Y1 c0 hB1) ?_;clear hK K;refine Late.on (i:=9) fun K hK=>?_;go_simp;obtain⟨Y,hY⟩:=nm (Y1.alloc (.cells #[.int .i64 0,.int .i64 0,.int .i64 0,.slice none 0 0,.slice none 0 0,.slice none 0 0] 46));have y0:BoxN Y w.heap.size 46 [.int .i64 m,.int .i64 p,.int .i64 d.nul,.slice bp d.bufs.length bc,.slice (some ⟨kb,ko,none⟩) d.kids.length kc,.slice dp d.dict.length dc]:=by rw[hY];exact c0.alloc _
  have y1:BoxN Y (w.heap.size+1) 69 [.int .i64 0,.slice none 0 0,.int .i64 0]:=by rw[hY];exact c1.alloc _
  have y2:BoxN Y W.heap.size 46 [Value.int .i64 0,.int .i64 0,.int .i64 0,.slice none 0 0,.slice none 0 0,.slice none 0 0]:=by rw[hY];exact c2.alloc _
  have y3:BoxN Y Y1.heap.size 46 [Value.int .i64 0,.int .i64 0,.int .i64 0,.slice none 0 0,.slice none 0 0,.slice none 0 0]:=by rw[hY];exact BoxN.new Y1 46 _
  have hBY:Below w.heap.size w Y:=by rw[hY];exact hB1.alloc hB1.size _
  rw[<-hY];clear hY;refine hK _ _ (fun _=>SS Y y0 hBY) ?_;clear hK K c0 c1 c2;obtain⟨xa,hxa⟩:=nm (W.heap.size);obtain⟨xb,hxb⟩:=nm (W.heap.size+1);have HXS:=zh (show w.heap.size+1<xa/\w.heap.size+1<xb/\xa≠xb by have:=HSZ.o;omega);rw[hs1,<-hxb] at y3;rw[<-hxa] at y2
  try rw[<-hxb]
  try rw[<-hxa]
  clear hxa hxb hs1 hB1;have Yb0:=zh y0;have Yb1:=zh y1;have Yb2:=zh y2;have Yb3:=zh y3;have HY:=zh hBY;clear y0 y1 y2 y3 hBY;have kk0:Y.cell? ⟨xa,0,none⟩=some _:=Yb2.o.row 0 _ rfl;have k0:Y.drew.cell? ⟨xa,0,none⟩=some _:=Yb2.o.row 0 _ rfl;have z0:Y.frozen? ⟨xa,0,none⟩=false:=Yb2.o.frozen 0;have kk1:Y.cell? ⟨xa,1,none⟩=some _:=Yb2.o.row 1 _ rfl;have k1:Y.drew.cell? ⟨xa,1,none⟩=some _:=Yb2.o.row 1 _ rfl;have z1:Y.frozen? ⟨xa,1,none⟩=false:=Yb2.o.frozen 1;have kk2:Y.cell? ⟨xa,2,none⟩=some _:=Yb2.o.row 2 _ rfl;have k2:Y.drew.cell? ⟨xa,2,none⟩=some _:=Yb2.o.row 2 _ rfl;have z2:Y.frozen? ⟨xa,2,none⟩=false:=Yb2.o.frozen 2;have kk3:Y.cell? ⟨xa,3,none⟩=some _:=Yb2.o.row 3 _ rfl;have k3:Y.drew.cell? ⟨xa,3,none⟩=some _:=Yb2.o.row 3 _ rfl;have z3:Y.frozen? ⟨xa,3,none⟩=false:=Yb2.o.frozen 3;have kk4:Y.cell? ⟨xa,4,none⟩=some _:=Yb2.o.row 4 _ rfl;have k4:Y.drew.cell? ⟨xa,4,none⟩=some _:=Yb2.o.row 4 _ rfl;have z4:Y.frozen? ⟨xa,4,none⟩=false:=Yb2.o.frozen 4;have kk5:Y.cell? ⟨xa,5,none⟩=some _:=Yb2.o.row 5 _ rfl;have k5:Y.drew.cell? ⟨xa,5,none⟩=some _:=Yb2.o.row 5 _ rfl;have z5:Y.frozen? ⟨xa,5,none⟩=false:=Yb2.o.frozen 5;refine Late.on (i:=10) fun K hK=>?_;go_simp;obtain⟨E1,hE⟩:=nm (zgo Y xa (.int .i64 n) (.int .i64 o) (.int .i64 a.nul) (.slice (some ⟨yb,yo,none⟩) a.bufs.length abc) (.slice akp a.kids.length akc) (.slice adp a.dict.length adc));have y0:BoxN E1 w.heap.size 46 [.int .i64 m,.int .i64 p,.int .i64 d.nul,.slice bp d.bufs.length bc,.slice (some ⟨kb,ko,none⟩) d.kids.length kc,.slice dp d.dict.length dc]:=by rw[hE];exact(zbJ (by have:=HXS.o;omega) _ _ _ _ _ _).trans Yb0.o
  have y1:BoxN E1 (w.heap.size+1) 69 [.int .i64 0,.slice none 0 0,.int .i64 0]:=by rw[hE];exact(zbJ (by have:=HXS.o;omega) _ _ _ _ _ _).trans Yb1.o
  have y2:BoxN E1 xa 46 [Value.int .i64 n,.int .i64 o,.int .i64 a.nul,.slice (some ⟨yb,yo,none⟩) a.bufs.length abc,.slice akp a.kids.length akc,.slice adp a.dict.length adc]:=by rw[hE];exact zfv (l:=[_,_,_,_,_,_]) rfl Yb2.o _ _ _ _ _ _
  have y3:BoxN E1 xb 46 [Value.int .i64 0,.int .i64 0,.int .i64 0,.slice none 0 0,.slice none 0 0,.slice none 0 0]:=by rw[hE];exact(zbJ (by have:=HXS.o;omega) _ _ _ _ _ _).trans Yb3.o
  have hBE:Below w.heap.size w E1:=by rw[hE];exact zez HY.o (by have:=HXS.o;omega) _ _ _ _ _ _
  have hEq:((((((Y.setCell ⟨xa,0,none⟩ (.int .i64 n)).setCell ⟨xa,1,none⟩ (.int .i64 o)).setCell ⟨xa,2,none⟩ (.int .i64 a.nul)).setCell ⟨xa,3,none⟩ (.slice (some ⟨yb,yo,none⟩) a.bufs.length abc)).setCell ⟨xa,4,none⟩ (.slice akp a.kids.length akc)).setCell ⟨xa,5,none⟩ (.slice adp a.dict.length adc))=E1:=by rw[hE];rfl
  rw[hEq];clear hEq hE k0 kk0 z0 k1 kk1 z1 k2 kk2 z2 k3 kk3 z3 k4 kk4 z4 k5 kk5 z5;refine hK _ _ (fun _=>SS E1 y0 hBE) ?_;clear hK K;have E1b0:=zh y0;have E1b1:=zh y1;have E1b2:=zh y2;have E1b3:=zh y3;have HE1:=zh hBE;clear hBE y0 y1 y2 y3;have kk0:E1.cell? ⟨xb,0,none⟩=some _:=E1b3.o.row 0 _ rfl;have k0:E1.drew.cell? ⟨xb,0,none⟩=some _:=E1b3.o.row 0 _ rfl;have z0:E1.frozen? ⟨xb,0,none⟩=false:=E1b3.o.frozen 0;have kk1:E1.cell? ⟨xb,1,none⟩=some _:=E1b3.o.row 1 _ rfl;have k1:E1.drew.cell? ⟨xb,1,none⟩=some _:=E1b3.o.row 1 _ rfl;have z1:E1.frozen? ⟨xb,1,none⟩=false:=E1b3.o.frozen 1;have kk2:E1.cell? ⟨xb,2,none⟩=some _:=E1b3.o.row 2 _ rfl;have k2:E1.drew.cell? ⟨xb,2,none⟩=some _:=E1b3.o.row 2 _ rfl;have z2:E1.frozen? ⟨xb,2,none⟩=false:=E1b3.o.frozen 2;have kk3:E1.cell? ⟨xb,3,none⟩=some _:=E1b3.o.row 3 _ rfl;have k3:E1.drew.cell? ⟨xb,3,none⟩=some _:=E1b3.o.row 3 _ rfl;have z3:E1.frozen? ⟨xb,3,none⟩=false:=E1b3.o.frozen 3;have kk4:E1.cell? ⟨xb,4,none⟩=some _:=E1b3.o.row 4 _ rfl;have k4:E1.drew.cell? ⟨xb,4,none⟩=some _:=E1b3.o.row 4 _ rfl;have z4:E1.frozen? ⟨xb,4,none⟩=false:=E1b3.o.frozen 4;have kk5:E1.cell? ⟨xb,5,none⟩=some _:=E1b3.o.row 5 _ rfl;have k5:E1.drew.cell? ⟨xb,5,none⟩=some _:=E1b3.o.row 5 _ rfl;have z5:E1.frozen? ⟨xb,5,none⟩=false:=E1b3.o.frozen 5;refine Late.on (i:=11) fun K hK=>?_;go_simp;obtain⟨E2,hE⟩:=nm (zgo E1 xb (.int .i64 b.len) (.int .i64 b.off) (.int .i64 b.nul) (.slice bbp b.bufs.length bbc) (.slice bkp b.kids.length bkc) (.slice bdp b.dict.length bdc));have y0:BoxN E2 w.heap.size 46 [.int .i64 m,.int .i64 p,.int .i64 d.nul,.slice bp d.bufs.length bc,.slice (some ⟨kb,ko,none⟩) d.kids.length kc,.slice dp d.dict.length dc]:=by rw[hE];exact(zbJ (by have:=HXS.o;omega) _ _ _ _ _ _).trans E1b0.o
  have y1:BoxN E2 (w.heap.size+1) 69 [.int .i64 0,.slice none 0 0,.int .i64 0]:=by rw[hE];exact(zbJ (by have:=HXS.o;omega) _ _ _ _ _ _).trans E1b1.o
  have y2:BoxN E2 xa 46 [Value.int .i64 n,.int .i64 o,.int .i64 a.nul,.slice (some ⟨yb,yo,none⟩) a.bufs.length abc,.slice akp a.kids.length akc,.slice adp a.dict.length adc]:=by rw[hE];exact(zbJ (by have:=HXS.o;omega) _ _ _ _ _ _).trans E1b2.o
  have y3:BoxN E2 xb 46 [Value.int .i64 b.len,.int .i64 b.off,.int .i64 b.nul,.slice bbp b.bufs.length bbc,.slice bkp b.kids.length bkc,.slice bdp b.dict.length bdc]:=by rw[hE];exact zfv (l:=[_,_,_,_,_,_]) rfl E1b3.o _ _ _ _ _ _
  have hBE:Below w.heap.size w E2:=by rw[hE];exact zez HE1.o (by have:=HXS.o;omega) _ _ _ _ _ _
  have hEq:((((((E1.setCell ⟨xb,0,none⟩ (.int .i64 b.len)).setCell ⟨xb,1,none⟩ (.int .i64 b.off)).setCell ⟨xb,2,none⟩ (.int .i64 b.nul)).setCell ⟨xb,3,none⟩ (.slice bbp b.bufs.length bbc)).setCell ⟨xb,4,none⟩ (.slice bkp b.kids.length bkc)).setCell ⟨xb,5,none⟩ (.slice bdp b.dict.length bdc))=E2:=by rw[hE];rfl
  rw[hEq];clear hEq hE k0 kk0 z0 k1 kk1 z1 k2 kk2 z2 k3 kk3 z3 k4 kk4 z4 k5 kk5 z5;refine hK _ _ (fun _=>SS E2 y0 hBE) ?_;clear hK K;have E2b0:=zh y0;have E2b1:=zh y1;have E2b2:=zh y2;have E2b3:=zh y3;have HE2:=zh hBE;clear hBE y0 y1 y2 y3;refine Late.done (by kernel_rfl) ?_ _;obtain⟨E,hE⟩:=nm (E2.drew);have G0:=zh (show BoxN E w.heap.size 46 [.int .i64 m,.int .i64 p,.int .i64 d.nul,.slice bp d.bufs.length bc,.slice (some ⟨kb,ko,none⟩) d.kids.length kc,.slice dp d.dict.length dc] by rw[hE];exact E2b0.o);have G1:=zh (show BoxN E (w.heap.size+1) 69 [.int .i64 0,.slice none 0 0,.int .i64 0] by rw[hE];exact E2b1.o);have G2:=zh (show BoxN E xa 46 [Value.int .i64 n,.int .i64 o,.int .i64 a.nul,.slice (some ⟨yb,yo,none⟩) a.bufs.length abc,.slice akp a.kids.length akc,.slice adp a.dict.length adc] by rw[hE];exact E2b2.o);have G3:=zh (show BoxN E xb 46 [Value.int .i64 b.len,.int .i64 b.off,.int .i64 b.nul,.slice bbp b.bufs.length bbc,.slice bkp b.kids.length bkc,.slice bdp b.dict.length bdc] by rw[hE];exact E2b3.o);have HE:=zh (show Below w.heap.size w E by rw[hE];exact HE2.o.drew);rw[<-hE];clear hE E2b0 E2b1 E2b2 E2b3 HE2;have l0:E.cell? ⟨xa,0,none⟩=some _:=G2.o.row 0 _ rfl;have l1:E.cell? ⟨xb,0,none⟩=some _:=G3.o.row 0 _ rfl;cases qn:((n:Int) != b.len) with
  | true=>
   have HR:=zh (show zbO a b (L:Int)=6 by unfold zbO;rw[if_pos];rw[HNN.o];simpa using qn);go_wp2_with fail;refine(zar 6 _ E).mono ?_;rintro e W4 ⟨d4,pv,at4,rfl,hwv,hb4⟩;have HB4:=zh (HE.o.trans (hb4.mono HE.o.size));have BB4:=zh (G1.o.below hb4 G1.o.lt);have HWV:=zh hwv;obtain⟨pq,pc,rfl,-⟩:=hwv;clear hb4;obtain⟨q0,q1,q2⟩:=rr3 BB4.o.row;obtain⟨z0,z1,z2⟩:=ff3 BB4.o;have hl3:=BB4.o.lt;go_wp2_with fail;rw[HR.o];exact zal (i:=2) rfl (zak rfl BB4.o _ _ _) HWV.o (zae HB4.o (by omega) _ _ _) rfl
  | false=>
   have HNB:=zh (show(n:Int)=b.len by simpa using qn);go_wp2_with fail;have HLE:=zh (show zcs a.bufs[1] o 0=0 from rfl)
   go_loopw [24,5] (fun i t5 wr=>∃k:Nat,k<=n/\i=.int .i64 k/\t5=.int .i64 (zcs a.bufs[1] o k)/\Hid (upB a.bufs[1] o k=true)/\Hid (∃q,wr=E.drewN q)) (fun i _ _=>n-(intOf i).toNat)
   case atStart=>exact⟨0,by omega,rfl,by rw[HLE.o],zh rfl,zh ⟨0,rfl⟩⟩
   case round=>
    obtain⟨k,hk',rfl,rfl,HUP,HQ⟩:=hrel;obtain⟨q,hq⟩:=HQ.o;have J0:=zh (show BoxN wr w.heap.size 46 [.int .i64 m,.int .i64 p,.int .i64 d.nul,.slice bp d.bufs.length bc,.slice (some ⟨kb,ko,none⟩) d.kids.length kc,.slice dp d.dict.length dc] by rw[hq];exact G0.o);have J1:=zh (show BoxN wr (w.heap.size+1) 69 [.int .i64 0,.slice none 0 0,.int .i64 0] by rw[hq];exact G1.o);have J2:=zh (show BoxN wr xa 46 [Value.int .i64 n,.int .i64 o,.int .i64 a.nul,.slice (some ⟨yb,yo,none⟩) a.bufs.length abc,.slice akp a.kids.length akc,.slice adp a.dict.length adc] by rw[hq];exact G2.o);have HBR:=zh (show Below w.heap.size w wr by rw[hq];exact zab HE.o q);have HQ:=zh hq;clear hq;by_cases hlt:k<n
    ·obtain⟨v,hv⟩:=nm (s32 a.bufs[1] (o+k));have N1:Hid (∀t,Calls Tryz.prog 87 #[.slice yq a.bufs[1].size yc,.int .i64 ((o:Int)+(k:Int))] (wr.drewN t) (fun e w'=>e=.returned (.int .i64 v)/\∃m,w'=(wr.drewN t).drewN m)):=zh (fun t=>by
      rw[hv];exact za2 (HYB.o.below (zab HBR.o t)) (o+k) (by omega))
     have HV:=zh hv;have hvb:=zcx a.bufs[1] (o+k);rw[<-hv] at hvb;clear hv;obtain⟨lk,hlk⟩:=nm (zcs a.bufs[1] o k);rw[<-hlk];have HLK:=zh hlk;clear hlk;have r1:=J2.o.row 1 _ rfl;have r3:=J2.o.row 3 _ rfl;have t1:wr.cell? ⟨yb,yo+1,none⟩=some (.slice yq a.bufs[1].size yc):=zaa HBR.o HYC.o;have hok:(o:Int)+(k:Int)<=9223372036854775807:=by omega
     go_wp2_with fail
     go_quiet (with_reducible exact Calls.quiet_of (N1.o _))
     have J1q:=zh (show BoxN (wr.drewN nq) (w.heap.size+1) 69 [.int .i64 0,.slice none 0 0,.int .i64 0] from J1.o);cases qv:decide (v<=lk) with
     | true=>
      have HR:=zh (show zbO a b (L:Int)=87 by
       have hu:upB a.bufs[1] o (k+1)=false:=by
        unfold upB;rw[<-HLK.o,<-HV.o];have:v<=lk:=by simpa using qv
        simp only[Bool.and_eq_false_imp,decide_eq_false_iff_not];omega
       unfold zbO;rw[List.getElem?_eq_getElem hbb,Option.getD_some,HNN.o,HOO.o,Int.toNat_natCast,Int.toNat_natCast,if_neg (fun q=>q HNB.o),if_pos (zjX hu (by omega))])
      have qv':v<=lk:=by simpa using qv
      clear qv;go_wp2_with fail;refine(zar 87 _ _).mono ?_;rintro e W4 ⟨d4,pv,at4,rfl,hwv,hb4⟩;have HB4:=zh ((zab HBR.o nq).trans (hb4.mono (zab HBR.o nq).size));have BB4:=zh (J1q.o.below hb4 J1q.o.lt);have HWV:=zh hwv;obtain⟨pq,pc,rfl,-⟩:=hwv;clear hb4;obtain⟨q0,q1,q2⟩:=rr3 BB4.o.row;obtain⟨z0,z1,z2⟩:=ff3 BB4.o;have hl3:=BB4.o.lt;go_wp2_with fail;rw[HR.o];exact zal (i:=2) rfl (zak rfl BB4.o _ _ _) HWV.o (zae HB4.o (by omega) _ _ _) rfl
     | false=>
      have qv':¬v<=lk:=by simpa using qv
      clear qv;go_wp2_with fail;exact⟨⟨k+1,by omega,by go_num,by rw[HV.o];rfl,zh (by unfold upB;rw[HUP.o,<-HLK.o,<-HV.o,Bool.true_and,decide_eq_true_eq];omega),zh ⟨q+nq,by rw[HQ.o,World.drewN_drewN]⟩⟩,by simp only[intOf];omega⟩
    ·obtain rfl:n=k:=by omega
     have r00:=J0.o.row 0 _ rfl;have r01:=J0.o.row 1 _ rfl;have r20:wr.cell? ⟨xa,0,none⟩=some _:=J2.o.row 0 _ rfl;obtain⟨q0,q1,q2⟩:=rr3 J1.o.row;obtain⟨z0,z1,z2⟩:=ff3 J1.o;have hl3:=J1.o.lt;obtain⟨ln,hln⟩:=nm (zcs a.bufs[1] o n);rw[<-hln];have HLN:=zh hln;clear hln;have hLi:(p:Int)+(m:Int)=(L:Int):=by omega
     have HR0:Hid (zbO a b (L:Int)=if ln<(L:Int) then 87 else 0):=zh (by
      unfold zbO;rw[List.getElem?_eq_getElem hbb,Option.getD_some,HNN.o,HOO.o,Int.toNat_natCast,Int.toNat_natCast,if_neg (fun q=>q HNB.o),if_neg (by rw[HUP.o];exact fun q=>by cases q),<-HLN.o])
     have HLI:=zh hLi;clear hLi;cases qv:decide (ln<(L:Int)) with
     | true=>
      have HR:=zh (show zbO a b (L:Int)=87 by rw[HR0.o,if_pos (by simpa using qv)]);have qv':ln<(p:Int)+(m:Int):=by rw[HLI.o];simpa using qv
      clear qv;go_wp2_with fail;clear q0 q1 q2 z0 z1 z2 hl3;refine(zar 87 _ _).mono ?_;rintro e W4 ⟨d4,pv,at4,rfl,hwv,hb4⟩;have HB4:=zh (HBR.o.trans (hb4.mono HBR.o.size));have BB4:=zh (J1.o.below hb4 J1.o.lt);have HWV:=zh hwv;obtain⟨pq,pc,rfl,-⟩:=hwv;clear hb4;obtain⟨q0,q1,q2⟩:=rr3 BB4.o.row;obtain⟨z0,z1,z2⟩:=ff3 BB4.o;have hl3:=BB4.o.lt;go_wp2_with fail;rw[HR.o];exact zal (i:=2) rfl (zak rfl BB4.o _ _ _) HWV.o (zae HB4.o (by omega) _ _ _) rfl
     | false=>
      have HR:=zh (show zbO a b (L:Int)=0 by rw[HR0.o,if_neg (by simpa using qv)]);have qv':¬ln<(p:Int)+(m:Int):=by rw[HLI.o];simpa using qv
      clear qv;go_wp2_with fail;rw[HR.o];exact zal (i:=2) rfl (zak rfl J1.o _ _ _) zcE (zae HBR.o (by omega) _ _ _) rfl
 ·go_simp;obtain⟨Y1,hY1⟩:=nm (W.alloc (.cells #[.int .i64 0,.int .i64 0,.int .i64 0,.slice none 0 0,.slice none 0 0,.slice none 0 0] 46));have c0:BoxN Y1 w.heap.size 46 [.int .i64 m,.int .i64 p,.int .i64 d.nul,.slice bp d.bufs.length bc,.slice (some ⟨kb,ko,none⟩) d.kids.length kc,.slice dp d.dict.length dc]:=by rw[hY1];exact X1.o.alloc _
  have c1:BoxN Y1 (w.heap.size+1) 69 [.int .i64 0,.slice none 0 0,.int .i64 0]:=by rw[hY1];exact X2.o.alloc _
  have c2:BoxN Y1 W.heap.size 46 [Value.int .i64 0,.int .i64 0,.int .i64 0,.slice none 0 0,.slice none 0 0,.slice none 0 0]:=by rw[hY1];exact BoxN.new W 46 _
  have hB1:Below w.heap.size w Y1:=by rw[hY1];exact HBW.o.alloc HBW.o.size _
  have hs1:Y1.heap.size=W.heap.size+1:=by rw[hY1];simp
  rw[<-hY1];clear hY1;refine hK _ _ (fun _=>SS Y1 c0 hB1) ?_;clear hK K;refine Late.on (i:=8) fun K hK=>?_;go_simp;obtain⟨Y,hY⟩:=nm (Y1.alloc (.cells #[.int .i64 0,.int .i64 0,.int .i64 0,.slice none 0 0,.slice none 0 0,.slice none 0 0] 46));have y0:BoxN Y w.heap.size 46 [.int .i64 m,.int .i64 p,.int .i64 d.nul,.slice bp d.bufs.length bc,.slice (some ⟨kb,ko,none⟩) d.kids.length kc,.slice dp d.dict.length dc]:=by rw[hY];exact c0.alloc _
  have y1:BoxN Y (w.heap.size+1) 69 [.int .i64 0,.slice none 0 0,.int .i64 0]:=by rw[hY];exact c1.alloc _
  have y2:BoxN Y W.heap.size 46 [Value.int .i64 0,.int .i64 0,.int .i64 0,.slice none 0 0,.slice none 0 0,.slice none 0 0]:=by rw[hY];exact c2.alloc _
  have y3:BoxN Y Y1.heap.size 46 [Value.int .i64 0,.int .i64 0,.int .i64 0,.slice none 0 0,.slice none 0 0,.slice none 0 0]:=by rw[hY];exact BoxN.new Y1 46 _
  have hBY:Below w.heap.size w Y:=by rw[hY];exact hB1.alloc hB1.size _
  rw[<-hY];clear hY;refine hK _ _ (fun _=>SS Y y0 hBY) ?_;clear hK K c0 c1 c2;obtain⟨xb,hxb⟩:=nm (W.heap.size);obtain⟨xa,hxa⟩:=nm (W.heap.size+1);have HXS:=zh (show w.heap.size+1<xa/\w.heap.size+1<xb/\xa≠xb by have:=HSZ.o;omega);rw[hs1,<-hxa] at y3;rw[<-hxb] at y2
  try rw[<-hxa]
  try rw[<-hxb]
  clear hxb hxa hs1 hB1;have Yb0:=zh y0;have Yb1:=zh y1;have Yb2:=zh y2;have Yb3:=zh y3;have HY:=zh hBY;clear y0 y1 y2 y3 hBY;have kk0:Y.cell? ⟨xa,0,none⟩=some _:=Yb3.o.row 0 _ rfl;have k0:Y.drew.cell? ⟨xa,0,none⟩=some _:=Yb3.o.row 0 _ rfl;have z0:Y.frozen? ⟨xa,0,none⟩=false:=Yb3.o.frozen 0;have kk1:Y.cell? ⟨xa,1,none⟩=some _:=Yb3.o.row 1 _ rfl;have k1:Y.drew.cell? ⟨xa,1,none⟩=some _:=Yb3.o.row 1 _ rfl;have z1:Y.frozen? ⟨xa,1,none⟩=false:=Yb3.o.frozen 1;have kk2:Y.cell? ⟨xa,2,none⟩=some _:=Yb3.o.row 2 _ rfl;have k2:Y.drew.cell? ⟨xa,2,none⟩=some _:=Yb3.o.row 2 _ rfl;have z2:Y.frozen? ⟨xa,2,none⟩=false:=Yb3.o.frozen 2;have kk3:Y.cell? ⟨xa,3,none⟩=some _:=Yb3.o.row 3 _ rfl;have k3:Y.drew.cell? ⟨xa,3,none⟩=some _:=Yb3.o.row 3 _ rfl;have z3:Y.frozen? ⟨xa,3,none⟩=false:=Yb3.o.frozen 3;have kk4:Y.cell? ⟨xa,4,none⟩=some _:=Yb3.o.row 4 _ rfl;have k4:Y.drew.cell? ⟨xa,4,none⟩=some _:=Yb3.o.row 4 _ rfl;have z4:Y.frozen? ⟨xa,4,none⟩=false:=Yb3.o.frozen 4;have kk5:Y.cell? ⟨xa,5,none⟩=some _:=Yb3.o.row 5 _ rfl;have k5:Y.drew.cell? ⟨xa,5,none⟩=some _:=Yb3.o.row 5 _ rfl;have z5:Y.frozen? ⟨xa,5,none⟩=false:=Yb3.o.frozen 5;refine Late.on (i:=10) fun K hK=>?_;go_simp;obtain⟨E1,hE⟩:=nm (zgo Y xa (.int .i64 n) (.int .i64 o) (.int .i64 a.nul) (.slice (some ⟨yb,yo,none⟩) a.bufs.length abc) (.slice akp a.kids.length akc) (.slice adp a.dict.length adc));have y0:BoxN E1 w.heap.size 46 [.int .i64 m,.int .i64 p,.int .i64 d.nul,.slice bp d.bufs.length bc,.slice (some ⟨kb,ko,none⟩) d.kids.length kc,.slice dp d.dict.length dc]:=by rw[hE];exact(zbJ (by have:=HXS.o;omega) _ _ _ _ _ _).trans Yb0.o
  have y1:BoxN E1 (w.heap.size+1) 69 [.int .i64 0,.slice none 0 0,.int .i64 0]:=by rw[hE];exact(zbJ (by have:=HXS.o;omega) _ _ _ _ _ _).trans Yb1.o
  have y2:BoxN E1 xb 46 [Value.int .i64 0,.int .i64 0,.int .i64 0,.slice none 0 0,.slice none 0 0,.slice none 0 0]:=by rw[hE];exact(zbJ (by have:=HXS.o;omega) _ _ _ _ _ _).trans Yb2.o
  have y3:BoxN E1 xa 46 [Value.int .i64 n,.int .i64 o,.int .i64 a.nul,.slice (some ⟨yb,yo,none⟩) a.bufs.length abc,.slice akp a.kids.length akc,.slice adp a.dict.length adc]:=by rw[hE];exact zfv (l:=[_,_,_,_,_,_]) rfl Yb3.o _ _ _ _ _ _
  have hBE:Below w.heap.size w E1:=by rw[hE];exact zez HY.o (by have:=HXS.o;omega) _ _ _ _ _ _
  have hEq:((((((Y.setCell ⟨xa,0,none⟩ (.int .i64 n)).setCell ⟨xa,1,none⟩ (.int .i64 o)).setCell ⟨xa,2,none⟩ (.int .i64 a.nul)).setCell ⟨xa,3,none⟩ (.slice (some ⟨yb,yo,none⟩) a.bufs.length abc)).setCell ⟨xa,4,none⟩ (.slice akp a.kids.length akc)).setCell ⟨xa,5,none⟩ (.slice adp a.dict.length adc))=E1:=by rw[hE];rfl
  rw[hEq];clear hEq hE k0 kk0 z0 k1 kk1 z1 k2 kk2 z2 k3 kk3 z3 k4 kk4 z4 k5 kk5 z5;refine hK _ _ (fun _=>SS E1 y0 hBE) ?_;clear hK K;have E1b0:=zh y0;have E1b1:=zh y1;have E1b2:=zh y2;have E1b3:=zh y3;have HE1:=zh hBE;clear hBE y0 y1 y2 y3;have kk0:E1.cell? ⟨xb,0,none⟩=some _:=E1b2.o.row 0 _ rfl;have k0:E1.drew.cell? ⟨xb,0,none⟩=some _:=E1b2.o.row 0 _ rfl;have z0:E1.frozen? ⟨xb,0,none⟩=false:=E1b2.o.frozen 0;have kk1:E1.cell? ⟨xb,1,none⟩=some _:=E1b2.o.row 1 _ rfl;have k1:E1.drew.cell? ⟨xb,1,none⟩=some _:=E1b2.o.row 1 _ rfl;have z1:E1.frozen? ⟨xb,1,none⟩=false:=E1b2.o.frozen 1;have kk2:E1.cell? ⟨xb,2,none⟩=some _:=E1b2.o.row 2 _ rfl;have k2:E1.drew.cell? ⟨xb,2,none⟩=some _:=E1b2.o.row 2 _ rfl;have z2:E1.frozen? ⟨xb,2,none⟩=false:=E1b2.o.frozen 2;have kk3:E1.cell? ⟨xb,3,none⟩=some _:=E1b2.o.row 3 _ rfl;have k3:E1.drew.cell? ⟨xb,3,none⟩=some _:=E1b2.o.row 3 _ rfl;have z3:E1.frozen? ⟨xb,3,none⟩=false:=E1b2.o.frozen 3;have kk4:E1.cell? ⟨xb,4,none⟩=some _:=E1b2.o.row 4 _ rfl;have k4:E1.drew.cell? ⟨xb,4,none⟩=some _:=E1b2.o.row 4 _ rfl;have z4:E1.frozen? ⟨xb,4,none⟩=false:=E1b2.o.frozen 4;have kk5:E1.cell? ⟨xb,5,none⟩=some _:=E1b2.o.row 5 _ rfl;have k5:E1.drew.cell? ⟨xb,5,none⟩=some _:=E1b2.o.row 5 _ rfl;have z5:E1.frozen? ⟨xb,5,none⟩=false:=E1b2.o.frozen 5;refine Late.on (i:=11) fun K hK=>?_;go_simp;obtain⟨E2,hE⟩:=nm (zgo E1 xb (.int .i64 b.len) (.int .i64 b.off) (.int .i64 b.nul) (.slice bbp b.bufs.length bbc) (.slice bkp b.kids.length bkc) (.slice bdp b.dict.length bdc));have y0:BoxN E2 w.heap.size 46 [.int .i64 m,.int .i64 p,.int .i64 d.nul,.slice bp d.bufs.length bc,.slice (some ⟨kb,ko,none⟩) d.kids.length kc,.slice dp d.dict.length dc]:=by rw[hE];exact(zbJ (by have:=HXS.o;omega) _ _ _ _ _ _).trans E1b0.o
  have y1:BoxN E2 (w.heap.size+1) 69 [.int .i64 0,.slice none 0 0,.int .i64 0]:=by rw[hE];exact(zbJ (by have:=HXS.o;omega) _ _ _ _ _ _).trans E1b1.o
  have y2:BoxN E2 xb 46 [Value.int .i64 b.len,.int .i64 b.off,.int .i64 b.nul,.slice bbp b.bufs.length bbc,.slice bkp b.kids.length bkc,.slice bdp b.dict.length bdc]:=by rw[hE];exact zfv (l:=[_,_,_,_,_,_]) rfl E1b2.o _ _ _ _ _ _
  have y3:BoxN E2 xa 46 [Value.int .i64 n,.int .i64 o,.int .i64 a.nul,.slice (some ⟨yb,yo,none⟩) a.bufs.length abc,.slice akp a.kids.length akc,.slice adp a.dict.length adc]:=by rw[hE];exact(zbJ (by have:=HXS.o;omega) _ _ _ _ _ _).trans E1b3.o
  have hBE:Below w.heap.size w E2:=by rw[hE];exact zez HE1.o (by have:=HXS.o;omega) _ _ _ _ _ _
  have hEq:((((((E1.setCell ⟨xb,0,none⟩ (.int .i64 b.len)).setCell ⟨xb,1,none⟩ (.int .i64 b.off)).setCell ⟨xb,2,none⟩ (.int .i64 b.nul)).setCell ⟨xb,3,none⟩ (.slice bbp b.bufs.length bbc)).setCell ⟨xb,4,none⟩ (.slice bkp b.kids.length bkc)).setCell ⟨xb,5,none⟩ (.slice bdp b.dict.length bdc))=E2:=by rw[hE];rfl
  rw[hEq];clear hEq hE k0 kk0 z0 k1 kk1 z1 k2 kk2 z2 k3 kk3 z3 k4 kk4 z4 k5 kk5 z5;refine hK _ _ (fun _=>SS E2 y0 hBE) ?_;clear hK K;have E2b0:=zh y0;have E2b1:=zh y1;have E2b2:=zh y2;have E2b3:=zh y3;have HE2:=zh hBE;clear hBE y0 y1 y2 y3;refine Late.done (by kernel_rfl) ?_ _;obtain⟨E,hE⟩:=nm (E2.drew);have G0:=zh (show BoxN E w.heap.size 46 [.int .i64 m,.int .i64 p,.int .i64 d.nul,.slice bp d.bufs.length bc,.slice (some ⟨kb,ko,none⟩) d.kids.length kc,.slice dp d.dict.length dc] by rw[hE];exact E2b0.o);have G1:=zh (show BoxN E (w.heap.size+1) 69 [.int .i64 0,.slice none 0 0,.int .i64 0] by rw[hE];exact E2b1.o);have G2:=zh (show BoxN E xa 46 [Value.int .i64 n,.int .i64 o,.int .i64 a.nul,.slice (some ⟨yb,yo,none⟩) a.bufs.length abc,.slice akp a.kids.length akc,.slice adp a.dict.length adc] by rw[hE];exact E2b3.o);have G3:=zh (show BoxN E xb 46 [Value.int .i64 b.len,.int .i64 b.off,.int .i64 b.nul,.slice bbp b.bufs.length bbc,.slice bkp b.kids.length bkc,.slice bdp b.dict.length bdc] by rw[hE];exact E2b2.o);have HE:=zh (show Below w.heap.size w E by rw[hE];exact HE2.o.drew);rw[<-hE];clear hE E2b0 E2b1 E2b2 E2b3 HE2;have l0:E.cell? ⟨xa,0,none⟩=some _:=G2.o.row 0 _ rfl;have l1:E.cell? ⟨xb,0,none⟩=some _:=G3.o.row 0 _ rfl;cases qn:((n:Int) != b.len) with
  | true=>
   have HR:=zh (show zbO a b (L:Int)=6 by unfold zbO;rw[if_pos];rw[HNN.o];simpa using qn);go_wp2_with fail;refine(zar 6 _ E).mono ?_;rintro e W4 ⟨d4,pv,at4,rfl,hwv,hb4⟩;have HB4:=zh (HE.o.trans (hb4.mono HE.o.size));have BB4:=zh (G1.o.below hb4 G1.o.lt);have HWV:=zh hwv;obtain⟨pq,pc,rfl,-⟩:=hwv;clear hb4;obtain⟨q0,q1,q2⟩:=rr3 BB4.o.row;obtain⟨z0,z1,z2⟩:=ff3 BB4.o;have hl3:=BB4.o.lt;go_wp2_with fail;rw[HR.o];exact zal (i:=2) rfl (zak rfl BB4.o _ _ _) HWV.o (zae HB4.o (by omega) _ _ _) rfl
  | false=>
   have HNB:=zh (show(n:Int)=b.len by simpa using qn);go_wp2_with fail;have HLE:=zh (show zcs a.bufs[1] o 0=0 from rfl)
   go_loopw [24,5] (fun i t5 wr=>∃k:Nat,k<=n/\i=.int .i64 k/\t5=.int .i64 (zcs a.bufs[1] o k)/\Hid (upB a.bufs[1] o k=true)/\Hid (∃q,wr=E.drewN q)) (fun i _ _=>n-(intOf i).toNat)
   case atStart=>exact⟨0,by omega,rfl,by rw[HLE.o],zh rfl,zh ⟨0,rfl⟩⟩
   case round=>
    obtain⟨k,hk',rfl,rfl,HUP,HQ⟩:=hrel;obtain⟨q,hq⟩:=HQ.o;have J0:=zh (show BoxN wr w.heap.size 46 [.int .i64 m,.int .i64 p,.int .i64 d.nul,.slice bp d.bufs.length bc,.slice (some ⟨kb,ko,none⟩) d.kids.length kc,.slice dp d.dict.length dc] by rw[hq];exact G0.o);have J1:=zh (show BoxN wr (w.heap.size+1) 69 [.int .i64 0,.slice none 0 0,.int .i64 0] by rw[hq];exact G1.o);have J2:=zh (show BoxN wr xa 46 [Value.int .i64 n,.int .i64 o,.int .i64 a.nul,.slice (some ⟨yb,yo,none⟩) a.bufs.length abc,.slice akp a.kids.length akc,.slice adp a.dict.length adc] by rw[hq];exact G2.o);have HBR:=zh (show Below w.heap.size w wr by rw[hq];exact zab HE.o q);have HQ:=zh hq;clear hq;by_cases hlt:k<n
    ·obtain⟨v,hv⟩:=nm (s32 a.bufs[1] (o+k));have N1:Hid (∀t,Calls Tryz.prog 87 #[.slice yq a.bufs[1].size yc,.int .i64 ((o:Int)+(k:Int))] (wr.drewN t) (fun e w'=>e=.returned (.int .i64 v)/\∃m,w'=(wr.drewN t).drewN m)):=zh (fun t=>by
      rw[hv];exact za2 (HYB.o.below (zab HBR.o t)) (o+k) (by omega))
     have HV:=zh hv;have hvb:=zcx a.bufs[1] (o+k);rw[<-hv] at hvb;clear hv;obtain⟨lk,hlk⟩:=nm (zcs a.bufs[1] o k);rw[<-hlk];have HLK:=zh hlk;clear hlk;have r1:=J2.o.row 1 _ rfl;have r3:=J2.o.row 3 _ rfl;have t1:wr.cell? ⟨yb,yo+1,none⟩=some (.slice yq a.bufs[1].size yc):=zaa HBR.o HYC.o;have hok:(o:Int)+(k:Int)<=9223372036854775807:=by omega
     go_wp2_with fail
     go_quiet (with_reducible exact Calls.quiet_of (N1.o _))
     have J1q:=zh (show BoxN (wr.drewN nq) (w.heap.size+1) 69 [.int .i64 0,.slice none 0 0,.int .i64 0] from J1.o);cases qv:decide (v<=lk) with
     | true=>
      have HR:=zh (show zbO a b (L:Int)=87 by
       have hu:upB a.bufs[1] o (k+1)=false:=by
        unfold upB;rw[<-HLK.o,<-HV.o];have:v<=lk:=by simpa using qv
        simp only[Bool.and_eq_false_imp,decide_eq_false_iff_not];omega
       unfold zbO;rw[List.getElem?_eq_getElem hbb,Option.getD_some,HNN.o,HOO.o,Int.toNat_natCast,Int.toNat_natCast,if_neg (fun q=>q HNB.o),if_pos (zjX hu (by omega))])
      have qv':v<=lk:=by simpa using qv
      clear qv;go_wp2_with fail;refine(zar 87 _ _).mono ?_;rintro e W4 ⟨d4,pv,at4,rfl,hwv,hb4⟩;have HB4:=zh ((zab HBR.o nq).trans (hb4.mono (zab HBR.o nq).size));have BB4:=zh (J1q.o.below hb4 J1q.o.lt);have HWV:=zh hwv;obtain⟨pq,pc,rfl,-⟩:=hwv;clear hb4;obtain⟨q0,q1,q2⟩:=rr3 BB4.o.row;obtain⟨z0,z1,z2⟩:=ff3 BB4.o;have hl3:=BB4.o.lt;go_wp2_with fail;rw[HR.o];exact zal (i:=2) rfl (zak rfl BB4.o _ _ _) HWV.o (zae HB4.o (by omega) _ _ _) rfl
     | false=>
      have qv':¬v<=lk:=by simpa using qv
      clear qv;go_wp2_with fail;exact⟨⟨k+1,by omega,by go_num,by rw[HV.o];rfl,zh (by unfold upB;rw[HUP.o,<-HLK.o,<-HV.o,Bool.true_and,decide_eq_true_eq];omega),zh ⟨q+nq,by rw[HQ.o,World.drewN_drewN]⟩⟩,by simp only[intOf];omega⟩
    ·obtain rfl:n=k:=by omega
     have r00:=J0.o.row 0 _ rfl;have r01:=J0.o.row 1 _ rfl;have r20:wr.cell? ⟨xa,0,none⟩=some _:=J2.o.row 0 _ rfl;obtain⟨q0,q1,q2⟩:=rr3 J1.o.row;obtain⟨z0,z1,z2⟩:=ff3 J1.o;have hl3:=J1.o.lt;obtain⟨ln,hln⟩:=nm (zcs a.bufs[1] o n);rw[<-hln];have HLN:=zh hln;clear hln;have hLi:(p:Int)+(m:Int)=(L:Int):=by omega
     have HR0:Hid (zbO a b (L:Int)=if ln<(L:Int) then 87 else 0):=zh (by
      unfold zbO;rw[List.getElem?_eq_getElem hbb,Option.getD_some,HNN.o,HOO.o,Int.toNat_natCast,Int.toNat_natCast,if_neg (fun q=>q HNB.o),if_neg (by rw[HUP.o];exact fun q=>by cases q),<-HLN.o])
     have HLI:=zh hLi;clear hLi;cases qv:decide (ln<(L:Int)) with
     | true=>
      have HR:=zh (show zbO a b (L:Int)=87 by rw[HR0.o,if_pos (by simpa using qv)]);have qv':ln<(p:Int)+(m:Int):=by rw[HLI.o];simpa using qv
      clear qv;go_wp2_with fail;clear q0 q1 q2 z0 z1 z2 hl3;refine(zar 87 _ _).mono ?_;rintro e W4 ⟨d4,pv,at4,rfl,hwv,hb4⟩;have HB4:=zh (HBR.o.trans (hb4.mono HBR.o.size));have BB4:=zh (J1.o.below hb4 J1.o.lt);have HWV:=zh hwv;obtain⟨pq,pc,rfl,-⟩:=hwv;clear hb4;obtain⟨q0,q1,q2⟩:=rr3 BB4.o.row;obtain⟨z0,z1,z2⟩:=ff3 BB4.o;have hl3:=BB4.o.lt;go_wp2_with fail;rw[HR.o];exact zal (i:=2) rfl (zak rfl BB4.o _ _ _) HWV.o (zae HB4.o (by omega) _ _ _) rfl
     | false=>
      have HR:=zh (show zbO a b (L:Int)=0 by rw[HR0.o,if_neg (by simpa using qv)]);have qv':¬ln<(p:Int)+(m:Int):=by rw[HLI.o];simpa using qv
      clear qv;go_wp2_with fail;rw[HR.o];exact zal (i:=2) rfl (zak rfl J1.o _ _ _) zcE (zae HBR.o (by omega) _ _ _) rfl
theorem zmb {w:World}(v:Value)(a:Nat)(ha:a<=9223372036854775807):Calls Tryz.prog 90 #[v,.int .i64 a,.int .i64 a] w (zaz w (.slice none 0 0)):=by
 go_in
 go_wp2_with fail;go_ret;exact zav rfl rfl
theorem zkW {w:World}{b o k kc pb po n c:Nat}(hk:0<k)(h0:w.cell? ⟨b,o,none⟩=some (.slice (some ⟨pb,po,none⟩) n c))(a z:Nat)(haz:a<z)(hz:z<=c)(hc:c<=9223372036854775807) :
  Calls Tryz.prog 90 #[.slice (some ⟨b,o,none⟩) k kc,.int .i64 a,.int .i64 z] w (zaz w (.slice (some ⟨pb,po+a,none⟩) (z-a) (c-a))):=by
 have q:((a:Int) == (z:Int))=false:=by simp;omega
 have q1:(a:Int)≠(z:Int):=by omega
 go_in
 go_wp2_with fail;go_ret;exact zav rfl rfl
end Go.Fld
