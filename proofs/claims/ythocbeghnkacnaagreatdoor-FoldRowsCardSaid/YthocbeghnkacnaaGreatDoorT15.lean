import Derived.Test.YthocbeghnkacnaaGreatDoorT10
import Derived.Test.YthocbeghnkacnaaGreatDoorT14
set_option linter.unusedVariables false
set_option linter.unusedSimpArgs false
set_option linter.unnecessarySimpa false
set_option maxRecDepth 100000
set_option maxHeartbeats 16000000
namespace Go.Fld
open Go Go.RowKit Go.Proofs Go.ChangeShapes Go.WideShapes Go.ChangeAt Go.Shelf
def zcR (s:ByteArray)(o:Nat)(top:Int):Nat->Bool
 | 0=>true
 | k+1=>zcR s o top k && (decide (zcs s o k<=s32 s (o+k)) && decide (s32 s (o+k)<=top))
theorem zh9 {s:ByteArray}{o k:Nat}{top:Int}(h:zcR s o top k=false):∀ {n},k<=n->zcR s o top n=false:=by
 intro n hn
 induction n with
 | zero=>
  obtain rfl:k=0:=by omega
  exact h
 | succ n ih=>
  by_cases hk:k=n+1
  ·rw[<-hk];exact h
  ·unfold zcR;rw[ih (by omega)];rfl
def zfw (f:Fd)(d:Dt):Int:=if f.k=15 then((d.kids[0]?).map Dt.len).getD 0 else(((d.bufs[2]?).getD ByteArray.empty).size:Int)
def zcq (f:Fd)(d:Dt):Int:=if zcR ((d.bufs[1]?).getD ByteArray.empty) d.off.toNat (zfw f d) (d.len.toNat+1)=false then 83 else 0
theorem zkX {w:World}{f:Fd}{d:Dt}{fs ds:List Value}(hf:FdAt w f fs)(hd:DAt (fun _=>True) w d ds)(n o:Nat)(hn:d.len=n)(ho:d.off=o)(h15:f.k=15)(hbb:1<d.bufs.length)(hk:0<d.kids.length)(hs:4*(o+n+1)<=d.bufs[1].size) :
  Calls Tryz.prog 86 #[.agg fs.toArray,.agg ds.toArray] w (zcP w (zcq f d)):=by
 obtain⟨fp,fc,rfl,-⟩:=hf.shape;obtain⟨bp,bc,kp,kc,dp,dc,rfl,hbu,hki,hdi⟩:=hd.shape;obtain⟨-,hb1,hb2⟩:=zam hbu;obtain⟨-,hk1,hk2⟩:=zam hki;simp only[List.length_map] at hb1 hk1;unfold maxLen at hb2 hk2;obtain⟨bb,bo,yq,yc,rfl,-,hbc,hby⟩:=zbI hbu 1 hbb;obtain⟨⟨-,hy1,hy2⟩,-⟩:=zaZ hby;unfold maxLen at hy2;obtain⟨kb,ko,kbp,kbc,kkp,kkc,kdp,kdc,rfl,-,c0,-⟩:=zci hki 0 hk;rw[Nat.zero_mul,Nat.add_zero] at c0;have HYC:=zh hbc;have HYB:=zh hby;have HC0:=zh c0;rw[hn,ho];have HNN:=zh hn;have HOO:=zh ho;have H15:=zh h15;obtain⟨tp,htp⟩:=nm (d.kids[0].len);rw[<-htp] at HC0;have HTP:Hid (zfw f d=tp):=zh (by unfold zfw;rw[if_pos h15,List.getElem?_eq_getElem hk,htp];rfl);clear hf hd hbu hki hdi hbc hby c0 hn ho htp;obtain⟨W,hW,x0,x1,x2,hBW⟩:=zbG w 26 (f7 f fp fc) 46 [.int .i64 n,.int .i64 o,.int .i64 d.nul,.slice (some ⟨bb,bo,none⟩) d.bufs.length bc,.slice (some ⟨kb,ko,none⟩) d.kids.length kc,.slice dp d.dict.length dc] 69 [.int .i64 0,.slice none 0 0,.int .i64 0];have X0:=zh x0;have X1:=zh x1;have X2:=zh x2;have HBW:=zh hBW;have HW:=zh hW;have r2:=x0.row 2 _ rfl;have r4:=x1.row 4 _ rfl;have r0:=x1.row 0 _ rfl;have c0:W.cell? ⟨kb,ko,none⟩=some (.int .i64 tp):=zaa hBW HC0.o;rw[hW] at c0;have hl0:=x0.lt;have hl1:=x1.lt;have q15:(f.k == 15)=true:=by simpa using h15
 clear x0 x1 x2 hBW hW h15
 go_in
 go_wp2_with fail;rw[<-HW.o];clear HW c0 r0 r2 r4;have HLE:=zh (show zcs d.bufs[1] o 0=0 from rfl)
 go_loopw [28,6] (fun i t5 wr=>∃k:Nat,k<=n+1/\i=.int .i64 k/\t5=.int .i64 (zcs d.bufs[1] o k)/\Hid (zcR d.bufs[1] o tp k=true)/\Hid (∃q,wr=W.drewN q)) (fun i _ _=>n+1-(intOf i).toNat)
 case atStart=>exact⟨0,by omega,rfl,by rw[HLE.o],zh rfl,zh ⟨0,rfl⟩⟩
 case round=>
  obtain⟨k,hk',rfl,rfl,HUP,HQ⟩:=hrel;obtain⟨q,hq⟩:=HQ.o;have J0:=zh (show BoxN wr w.heap.size 26 (f7 f fp fc) by rw[hq];exact X0.o);have J1:=zh (show BoxN wr (w.heap.size+1) 46 [.int .i64 n,.int .i64 o,.int .i64 d.nul,.slice (some ⟨bb,bo,none⟩) d.bufs.length bc,.slice (some ⟨kb,ko,none⟩) d.kids.length kc,.slice dp d.dict.length dc] by rw[hq];exact X1.o);have J2:=zh (show BoxN wr (w.heap.size+1+1) 69 [.int .i64 0,.slice none 0 0,.int .i64 0] by rw[hq];exact X2.o);have HBR:=zh (show Below w.heap.size w wr by rw[hq];exact zab HBW.o q);have HQ:=zh hq;clear hq;obtain⟨lk,hlk⟩:=nm (zcs d.bufs[1] o k);rw[<-hlk];have HLK:=zh hlk;clear hlk;by_cases hlt:k<n+1
  ·obtain⟨v,hv⟩:=nm (s32 d.bufs[1] (o+k));have N1:Hid (∀t,Calls Tryz.prog 87 #[.slice yq d.bufs[1].size yc,.int .i64 ((o:Int)+(k:Int))] (wr.drewN t) (fun e w'=>e=.returned (.int .i64 v)/\∃m,w'=(wr.drewN t).drewN m)):=zh (fun t=>by
    rw[hv];exact za2 (HYB.o.below (zab HBR.o t)) (o+k) (by omega))
   have HV:=zh hv;have hvb:=zcx d.bufs[1] (o+k);rw[<-hv] at hvb;clear hv;have HST:Hid (zcR d.bufs[1] o tp (k+1)=(decide (lk<=v) && decide (v<=tp))):=zh (by unfold zcR;rw[HUP.o,<-HLK.o,<-HV.o,Bool.true_and]);have HBAD:Hid (zcR d.bufs[1] o tp (k+1)=false->zcq f d=83):=zh (fun hu=>by
    unfold zcq;rw[List.getElem?_eq_getElem hbb,Option.getD_some,HNN.o,HOO.o,Int.toNat_natCast,Int.toNat_natCast,HTP.o,if_pos (zh9 hu (by omega))])
   have r1:=J1.o.row 1 _ rfl;have r3:=J1.o.row 3 _ rfl;have t1:wr.cell? ⟨bb,bo+1,none⟩=some (.slice yq d.bufs[1].size yc):=zaa HBR.o HYC.o;have hok:(o:Int)+(k:Int)<=9223372036854775807:=by omega
   go_wp2_with fail
   go_quiet (with_reducible exact Calls.quiet_of (N1.o _))
   have J2q:=zh (show BoxN (wr.drewN nq) (w.heap.size+1+1) 69 [.int .i64 0,.slice none 0 0,.int .i64 0] from J2.o);cases qv:decide (v<lk) with
   | true=>
    have qv':v<lk:=by simpa using qv
    have HR:=zh (HBAD.o (by rw[HST.o];simp;omega));clear qv;go_wp2_with fail;refine(zar 83 _ _).mono ?_;rintro e W4 ⟨d4,pv,at4,rfl,hwv,hb4⟩;have HB4:=zh ((zab HBR.o nq).trans (hb4.mono (zab HBR.o nq).size));have BB4:=zh (J2q.o.below hb4 J2q.o.lt);have HWV:=zh hwv;obtain⟨pq,pc,rfl,-⟩:=hwv;clear hb4;obtain⟨q0,q1,q2⟩:=rr3 BB4.o.row;obtain⟨z0,z1,z2⟩:=ff3 BB4.o;have hl3:=BB4.o.lt;go_wp2_with fail;rw[HR.o];exact zal (i:=4) rfl (zak rfl BB4.o _ _ _) HWV.o (zae HB4.o (by omega) _ _ _) rfl
   | false=>
    have qv':¬v<lk:=by simpa using qv
    clear qv;cases qt:decide (tp<v) with
    | true=>
     have qt':tp<v:=by simpa using qt
     have HR:=zh (HBAD.o (by rw[HST.o];simp;omega));clear qt;go_wp2_with fail;refine(zar 83 _ _).mono ?_;rintro e W4 ⟨d4,pv,at4,rfl,hwv,hb4⟩;have HB4:=zh ((zab HBR.o nq).trans (hb4.mono (zab HBR.o nq).size));have BB4:=zh (J2q.o.below hb4 J2q.o.lt);have HWV:=zh hwv;obtain⟨pq,pc,rfl,-⟩:=hwv;clear hb4;obtain⟨q0,q1,q2⟩:=rr3 BB4.o.row;obtain⟨z0,z1,z2⟩:=ff3 BB4.o;have hl3:=BB4.o.lt;go_wp2_with fail;rw[HR.o];exact zal (i:=4) rfl (zak rfl BB4.o _ _ _) HWV.o (zae HB4.o (by omega) _ _ _) rfl
    | false=>
     have qt':¬tp<v:=by simpa using qt
     clear qt;go_wp2_with fail;exact⟨⟨k+1,by omega,by go_num,by rw[HV.o];rfl,zh (by rw[HST.o];simp;omega),zh ⟨q+nq,by rw[HQ.o,World.drewN_drewN]⟩⟩,by simp only[intOf];omega⟩
  ·obtain rfl:k=n+1:=by omega
   have r00:=J0.o.row 2 _ rfl;obtain⟨q0,q1,q2⟩:=rr3 J2.o.row;obtain⟨z0,z1,z2⟩:=ff3 J2.o;have hl3:=J2.o.lt;have q12:(f.k != 12)=true:=by rw[H15.o];rfl
   have HR:Hid (zcq f d=0):=zh (by
    unfold zcq;rw[List.getElem?_eq_getElem hbb,Option.getD_some,HNN.o,HOO.o,Int.toNat_natCast,Int.toNat_natCast,HTP.o,if_neg (by rw[HUP.o];exact fun q=>by cases q)])
   go_wp2_with fail;rw[HR.o];exact zal (i:=4) rfl (zak rfl J2.o _ _ _) zcE (zae HBR.o (by omega) _ _ _) rfl
end Go.Fld
namespace Go.Fld
open Go Go.RowKit Go.Proofs Go.ChangeShapes Go.WideShapes Go.ChangeAt Go.Shelf Go.Fld.Late
structure GrowS (S:Nat->Prop)(e:TypeId)(sz:Nat)(W:World)(base:Nat)(v:Value)(rows:List (List M))(css:List (List Value)):Prop where
 g:M.Grow e sz W base v rows css
 s:∀j (h:j<rows.length) (h':j<css.length),M.AtL (fun b=>S b/\v.ownBlock≠some b) W rows[j] css[j]
theorem GrowS.nil (S:Nat->Prop)(e:TypeId)(sz:Nat)(W:World)(base:Nat):GrowS S e sz W base (.slice none 0 0) [] []:=⟨M.Grow.nil _ _ _ _,fun j h=>absurd h (Nat.not_lt_zero _)⟩
theorem GrowS.below {S:Nat->Prop}{e:TypeId}{sz:Nat}{W W':World}{base:Nat}{v:Value}{rows:List (List M)}{css:List (List Value)}(h:GrowS S e sz W base v rows css)(hb:Below W.heap.size W W'):GrowS S e sz W' base v rows css:=
 ⟨h.g.below hb,fun j h1 h2=>(h.s j h1 h2).below hb⟩
theorem GrowS.push {S:Nat->Prop}{e:TypeId}{sz:Nat}{W W1:World}{base:Nat}{v:Value}{rows:List (List M)}{css:List (List Value)}(h:GrowS S e sz W base v rows css){r:List M}{cs:List Value}(hr:M.AtL (fun b=>S b/\v.ownBlock≠some b) W r cs)(hcs:cs.length=sz)
  {n:Nat} (hn:rows.length=n) {gg cap1:Nat} (hown:W1.ownsRow base e sz (.slice (some ⟨gg,0,none⟩) (n+1) cap1) (n+1) (css.flatMap id ++ cs)) (hgrow:W.grownBy W1 v.ownBlock) (hat:v.ownBlock=some gg\/gg=W.heap.size) :
  GrowS S e sz W1 base (.slice (some ⟨gg,0,none⟩) (n+1) cap1) (rows ++ [r]) (css ++ [cs]):=by
 refine⟨h.g.push (hr.mono fun b hb=>hb.2) hcs hn hown hgrow hat,fun j h1 h2=>?_⟩;have keep:∀ {x:List M} {c:List Value},M.AtL (fun b=>S b/\v.ownBlock≠some b) W x c->M.AtL (fun b=>S b/\(Value.slice (some ⟨gg,0,none⟩) (n+1) cap1).ownBlock≠some b) W1 x c:=fun hf=>hf.keep (fun b hs hlt=>by
  refine⟨hgrow.block b hlt (fun e=>hs.2 e.symm),hs.1,?_⟩;intro e;simp[Value.ownBlock] at e;rcases hat with h|h
  ·exact hs.2 (by rw[h,e])
  ·omega)
 by_cases hj:j<rows.length
 ·rw[List.getElem_append_left hj,List.getElem_append_left (by rw[h.g.len];exact hj)];exact keep (h.s j hj (by rw[h.g.len];exact hj))
 ·have e:j=rows.length:=by simp at h1;omega
  subst e;have hl:=h.g.len;simp only[List.getElem_append_right (Nat.le_refl _),Nat.sub_self];rw[List.getElem_append_right (by omega)];simp only[hl,Nat.sub_self,List.getElem_cons_zero];exact keep hr
theorem GrowS.list {S:Nat->Prop}{e:TypeId}{sz:Nat}(hsz:0<sz){W:World}{base:Nat}{p:Option Addr}{n cap:Nat}{rows:List (List M)}{css:List (List Value)}(h:GrowS S e sz W base (.slice p n cap) rows css)(hB:∀b,base<=b->S b):M.At S W (.many sz rows) (.slice p n cap):=
 zjU hsz h.g h.s (fun b hb=>hb.1) hB
inductive DtFew:Dt->Prop
 | mk {d:Dt}:d.bufs.length<=100/\d.kids.length<=100/\d.dict.length<=100->(∀e ∈ d.kids,DtFew e)->(∀e ∈ d.dict,DtFew e)->DtFew d
theorem zro:Tryz.prog.underlying 29=some (.slice 46):=by kernel_rfl
theorem zkY:∃i z,Tryz.prog.info? 46=some i/\i.zero=some z/\z.cells.size=6/\i.size=6/\i.bytes=96:=⟨_,_,rfl,rfl,rfl,rfl,rfl⟩
theorem zq1 {fn:Func}{i:Nat}(hfn:fn.results=#[.cell i 46]){W:World}{tmps:Array Value}{rb:Nat}{c0 c1 c2 c3 c4 c5:Value}(ht:tmps.getD i undef=.pointer (some ⟨rb,0,none⟩))(hw:RowAt W rb [c0,c1,c2,c3,c4,c5]) :
  (results fn tmps).run Tryz.prog W=.ok (.agg #[c0,c1,c2,c3,c4,c5]) W:=by
 have h0:=hw 0 _ rfl;have h1:=hw 1 _ rfl;have h2:=hw 2 _ rfl;have h3:=hw 3 _ rfl;have h4:=hw 4 _ rfl;have h5:=hw 5 _ rfl;rw[Array.getD_eq_getD_getElem?] at ht;simp[results,hfn,go_sem,ht,h0,h1,h2,h3,h4,h5]
def zhg (S:Nat->Prop)(w:World)(d:Dt)(e:Ending)(w':World):Prop:=∃bp bc kp kc dp dc,e=.returned (.agg #[.int .i64 d.len,.int .i64 d.off,.int .i64 d.nul,.slice bp d.bufs.length bc,.slice kp d.kids.length kc,.slice dp d.dict.length dc])/\DAt S w' d (d6 d bp bc kp kc dp dc)/\Below w.heap.size w w'
def zq2 (S:Nat->Prop)(w:World)(l:List Dt)(e:Ending)(w':World):Prop:=∃q c,e=.returned (.slice q l.length c)/\M.At S w' (.many 6 (l.map dtR)) (.slice q l.length c)/\Below w.heap.size w w'
theorem zqv {fn:Func}{i:Nat}(hfn:fn.results=#[.cell i 46]){S:Nat->Prop}{w W:World}{rb:Nat}{d:Dt}{bp:Option Addr}{bc:Nat}{kp:Option Addr}{kc:Nat}{dp:Option Addr}{dc:Nat}(hbx:BoxN W rb 46 (d6 d bp bc kp kc dp dc))
  (hb:M.At S W (zeu d.bufs) (.slice bp d.bufs.length bc)) (hk:M.At S W (.many 6 (d.kids.map dtR)) (.slice kp d.kids.length kc)) (hd:M.At S W (.many 6 (d.dict.map dtR)) (.slice dp d.dict.length dc)) (hB:Below w.heap.size w W)
  {tmps:Array Value} (ht:tmps.getD i undef=.pointer (some ⟨rb,0,none⟩)):bodyPost Tryz.prog fn (zhg S w d) Exit.ret { tmps:=tmps,defers:=[] } W:=
 bodyPost_ret (zq1 hfn ht hbx.row) rfl ⟨bp,bc,kp,kc,dp,dc,rfl,by
  unfold DAt;rw[ziR];exact M.AtL.cons M.At.one (M.AtL.cons M.At.one (M.AtL.cons M.At.one (M.AtL.cons hb (M.AtL.cons hk (M.AtL.cons hd M.AtL.nil))))),hB⟩
theorem zfL {S:Nat->Prop}{w:World}{l:List Dt}{p:Option Addr}{cap:Nat}(hS:∀b,w.heap.size<=b->S b)(h:M.At S w (.many 6 (l.map dtR)) (.slice p l.length cap))(hl:l.length<=1000000000000)
  (ih:∀g ∈ l,∀(S:Nat->Prop) (w:World) (cs:List Value),(∀b,w.heap.size<=b->S b)->DAt S w g cs->Calls Tryz.prog 37 #[.agg cs.toArray] w (zhg S w g)) :
  Calls Tryz.prog 54 #[.slice p l.length cap] w (zq2 S w l):=by
 obtain⟨i1,z1,hi1,hz1,hzc1,hsz1,hby1⟩:=zkY;obtain⟨-,hl1,hl2⟩:=zam h;unfold maxLen at hl2;simp only[List.length_map] at hl1;have H:=zh h;have HI:=zh ih;have HS:=zh hS;clear h ih hS
 go_in
 go_wp2_with fail
 go_loopw [3,8] (fun o i wr=>∃(k:Nat) (q:Option Addr) (c:Nat) (css:List (List Value)),k<=l.length/\o=.slice q k c/\i=.int .i64 k/\Hid (GrowS S 46 6 wr w.heap.size (.slice q k c) ((l.take k).map dtR) css)/\Hid (Below w.heap.size w wr)) (fun _ i _=>l.length-(intOf i).toNat)
 case atStart=>exact⟨0,none,0,[],by omega,rfl,rfl,zh (GrowS.nil _ _ _ _ _),zh (Below.refl _ _)⟩
 case round=>
  obtain⟨k,q,c,css,hk,rfl,rfl,HR,HB⟩:=hrel;by_cases hlt:k<l.length
  ·obtain⟨b',o',bp,bc,kp,kc,dp,dc,rfl,-,h0,h1,h2,h3,h4,h5,hrow⟩:=zci H.o k hlt;have hd:=M.AtL.keep (T:=fun b=>S b/\b<w.heap.size) (w':=w) (fun b hs hlt=>⟨rfl,hs,hlt⟩) hrow;have HIG:=zh (HI.o l[k] (List.getElem_mem hlt));have HTK:=zh (List.take_succ_eq_append_getElem hlt);have c0:=zaa HB.o h0;have c1:=zaa HB.o h1;have c2:=zaa HB.o h2;have c3:=zaa HB.o h3;have c4:=zaa HB.o h4;have c5:=zaa HB.o h5;have HD:=zh (DAt.below hd HB.o);have hsz:=HB.o.size;clear hd hrow h0 h1 h2 h3 h4 h5;generalize hg:l[k]=g at *;clear hg;go_wp2_with fail;obtain⟨A,hA⟩:=nm (wr.alloc (.cells #[.int .i64 g.len,.int .i64 g.off,.int .i64 g.nul,.slice bp g.bufs.length bc,.slice kp g.kids.length kc,.slice dp g.dict.length dc] 46));have BA:Below wr.heap.size wr A:=by rw[hA];exact(Below.refl _ wr).alloc (Nat.le_refl _) _
   rw[<-hA];clear hA;have hasz:wr.heap.size<=A.heap.size:=BA.size;have hoff:∀j,(Value.slice q k c).ownBlock=some j->w.heap.size<=j/\j<wr.heap.size:=fun j e=>HR.o.g.own.lt j e;refine(HIG.o (fun b=>S b/\(Value.slice q k c).ownBlock≠some b) A _ (fun b hb=>⟨HS.o b (by omega),fun e=>by have:=hoff b e;omega⟩) ((HD.o.below BA).mono fun b hb=>⟨hb.1,fun e=>by have:=hoff b e;omega⟩)).mono ?_;rintro e W1 ⟨bp1,bc1,kp1,kc1,dp1,dc1,rfl,hfd,hb1⟩;have hb2:Below wr.heap.size wr W1:=BA.trans (hb1.mono BA.size);have hR1:=HR.o.below hb2;have htk:((l.take k).map dtR).length=k:=by rw[List.length_map,List.length_take];omega
   have hown1:W1.ownsRow w.heap.size 46 6 (.slice q k c) k (css.flatMap id):=by have:=hR1.g.own;rwa [htk] at this
   have hs1:=hb2.size;have HR1:=zh hR1;have HO1:=zh hown1;have HF1:=zh hfd;have HB2:=zh (HB.o.trans (hb2.mono hsz));have HTL:=zh htk;have hZ:=BoxN.new W1 46 [Value.int .i64 g.len,.int .i64 g.off,.int .i64 g.nul,.slice bp1 g.bufs.length bc1,.slice kp1 g.kids.length kc1,.slice dp1 g.dict.length dc1];have HZ:=zh hZ;clear hfd hb1 hb2 hR1 hown1 hoff hZ BA htk c0 c1 c2 c3 c4 c5;go_wp2_with (at_builtin;refine wpList_append_lies _ rfl _ _ 29 rfl w.heap.size 46 i1 z1 6 96 zro hi1 hz1 hsz1 hby1 hzc1 (by decide) (.slice q k c) k (css.flatMap id) rfl (HO1.o.alloc _) ⟨W1.heap.size,0,none⟩ 1 1 [Value.int .i64 g.len,.int .i64 g.off,.int .i64 g.nul,.slice bp1 g.bufs.length bc1,.slice kp1 g.kids.length kc1,.slice dp1 g.dict.length dc1] rfl rfl (World.news_of_block HZ.o) (by simp[Value.oneCell']) (by decide) (by unfold maxLen;omega) (by omega) (by simp;omega) (W1.heap.size+1) (by simp) ?_;intro gg cc w2 hown2 hgrow2 hat2 hlt2);refine⟨⟨k+1,some ⟨gg,0,none⟩,cc,css ++ [[Value.int .i64 g.len,.int .i64 g.off,.int .i64 g.nul,.slice bp1 g.bufs.length bc1,.slice kp1 g.kids.length kc1,.slice dp1 g.dict.length dc1]],by omega,rfl,by go_num,zh ?_,zh ((HB2.o.alloc HB2.o.size _).grown hgrow2 (by have:=HB2.o.size;simp;omega) (fun j e=>(HO1.o.lt j e).1))⟩,by simp[intOf];omega⟩;rw[HTK.o,List.map_append,List.map_cons,List.map_nil];exact(HR1.o.below ((Below.refl _ W1).alloc (Nat.le_refl _) _)).push (HF1.o.below ((Below.refl _ W1).alloc (Nat.le_refl _) _)) rfl HTL.o hown2 hgrow2 (by rw[World.size_alloc];exact hat2)
  ·have hkl:k=l.length:=by omega
   have hR:=HR.o;rw[hkl,List.take_length] at hR;have HRL:=zh hR;have HKL:=zh hkl;clear hkl hR;go_wp2_with fail;go_ret;rw[HKL.o];exact⟨q,c,rfl,GrowS.list (by decide) HRL.o HS.o,HB.o⟩
def zgp (S:Nat->Prop)(n b:Nat):Prop:=S b/\b≠n/\b≠n+1
theorem zgq {S:Nat->Prop}{n:Nat}{W:World}{m:M}{v:Value}(h:M.At (zgp S n) W m v)(i:Nat)(u:Value):M.At (zgp S n) (W.setCell ⟨n,i,none⟩ u) m v:=h.keep fun b hs _=>⟨Below.heap_setCell _ _ _ b hs.2.1,hs⟩
theorem ziu {S:Nat->Prop}{w w':World}{m:M}{v:Value}(h:M.At S w m v)(hb:Below w.heap.size w w'):M.At (zgp S w.heap.size) w' m v:=h.keep fun b hs hlt=>⟨hb.block b hlt,hs,by omega,by omega⟩
theorem zmc {S:Nat->Prop}{w:World}{d:Dt}{ds:List Value}(hS:∀b,w.heap.size<=b->S b)(hd:DAt S w d ds)(hbl:d.bufs.length<=100)(hkl:d.kids.length<=1000000000000)(hdl:d.dict.length<=1000000000000)
  (ih:∀g,g ∈ d.kids\/g ∈ d.dict->∀(S:Nat->Prop) (w:World) (cs:List Value),(∀b,w.heap.size<=b->S b)->DAt S w g cs->Calls Tryz.prog 37 #[.agg cs.toArray] w (zhg S w g)) :
  Calls Tryz.prog 37 #[.agg ds.toArray] w (zhg S w d):=by
 obtain⟨bp,bc,kp,kc,dp,dc,rfl,hbu,hki,hdi⟩:=hd.shape;have HBU:=zh hbu;have HKI:=zh hki;have HDI:=zh hdi;have HI:=zh ih;have HL:=zh (And.intro hbl (And.intro hkl hdl));obtain⟨N,hN⟩:=nm (w.heap.size);have HS:=zh (show ∀b,w.heap.size+2<=b->zgp S w.heap.size b from fun b hb=>⟨hS b (by omega),by omega,by omega⟩);clear hd hbu hki hdi ih hS hbl hkl hdl hN;obtain⟨W1,hW,a1,a2,hBW⟩:=zbt w 46 (d6 d bp bc kp kc dp dc) 46 [.int .i64 0,.int .i64 0,.int .i64 0,.slice none 0 0,.slice none 0 0,.slice none 0 0];have hs1:W1.heap.size=w.heap.size+2:=by rw[hW,World.size_alloc,World.size_alloc]
 have HW:=zh hW;have A2:=zh a2;have A1:=zh a1;have HBW:=zh hBW;have HS1:=zh hs1;have y3:=a1.row 3 _ rfl;clear hW a1 a2 hBW hs1
 go_in
 go_wp2_with fail;rw[<-HW.o];clear HW;refine(zkr (ziu HBU.o HBW.o) HL.o.1).mono ?_;rintro e W2 ⟨q1,c1,css,rfl,hg,hr,hb⟩;have hlist:=zjU (T:=zgp S w.heap.size) (by decide) hg hr (fun b h=>h) (fun b h=>HS.o b (by have:=HS1.o;omega));simp only[List.length_map] at hlist ⊢;have b1:=A1.o.below hb A1.o.lt;have b2:=A2.o.below hb A2.o.lt;have HB2:=zh (HBW.o.trans (hb.mono HBW.o.size));have HZ2:=zh hb.size;have z3:=b1.frozen 3;have y3':=b1.row 3 _ rfl;have y4:=b1.row 4 _ rfl;have hlt1:=b1.lt;have B1:=zh b1;have B2:=zh b2;have HL1:=zh hlist;clear hlist hg hr hb b1 b2 y3;go_wp2_with fail;obtain⟨V2,hV2⟩:=nm (W2.setCell ⟨w.heap.size,3,none⟩ (.slice q1 d.bufs.length c1));have v1:BoxN V2 w.heap.size 46 (d6 d q1 c1 kp kc dp dc):=by rw[hV2];exact B1.o.set 3 (.slice q1 d.bufs.length c1)
 have v2:BoxN V2 (w.heap.size+1) 46 [.int .i64 0,.int .i64 0,.int .i64 0,.slice none 0 0,.slice none 0 0,.slice none 0 0]:=by rw[hV2];exact B2.o.other (by show w.heap.size+1≠w.heap.size;omega) _
 have hVB:Below w.heap.size w V2:=by rw[hV2];exact HB2.o.setCell (p:=⟨w.heap.size,3,none⟩) (Nat.le_refl _) _
 have hVL:M.At (zgp S w.heap.size) V2 (zeu d.bufs) (.slice q1 d.bufs.length c1):=by
  rw[hV2];exact zgq HL1.o 3 _
 have hV2s:w.heap.size+2<=V2.heap.size:=by
  rw[hV2,World.size_setCell];have:=HZ2.o;have:=HS1.o;omega
 rw[<-hV2];have V1:=zh v1;have VV2:=zh v2;have HVB:=zh hVB;have HVL:=zh hVL;have HVS:=zh hV2s;clear v1 v2 hVB hVL hV2s hV2 y3' y4 z3 hlt1;refine(zfL (fun b hb=>HS.o b (Nat.le_trans HVS.o hb)) (ziu HKI.o HVB.o) HL.o.2.1 (fun g hg=>HI.o g (.inl hg))).mono ?_;rintro e W3 ⟨q2,c2,rfl,hkl,hb⟩;have b1:=V1.o.below hb V1.o.lt;have b2:=VV2.o.below hb VV2.o.lt;have HB3:=zh (HVB.o.trans (hb.mono HVB.o.size));have HZ3:=zh hb.size;have HL1':=zh (M.At.below hb HVL.o);have HL2:=zh hkl;have z4:=b1.frozen 4;have y4:=b1.row 4 _ rfl;have y5:=b1.row 5 _ rfl;have hlt1:=b1.lt;have B1':=zh b1;have B2':=zh b2;clear hkl hb b1 b2 B1 B2 HL1;go_wp2_with fail;obtain⟨V3,hV3⟩:=nm (W3.setCell ⟨w.heap.size,4,none⟩ (.slice q2 d.kids.length c2));have v1:BoxN V3 w.heap.size 46 (d6 d q1 c1 q2 c2 dp dc):=by rw[hV3];exact B1'.o.set 4 (.slice q2 d.kids.length c2)
 have v2:BoxN V3 (w.heap.size+1) 46 [.int .i64 0,.int .i64 0,.int .i64 0,.slice none 0 0,.slice none 0 0,.slice none 0 0]:=by rw[hV3];exact B2'.o.other (by show w.heap.size+1≠w.heap.size;omega) _
 have hVB:Below w.heap.size w V3:=by rw[hV3];exact HB3.o.setCell (p:=⟨w.heap.size,4,none⟩) (Nat.le_refl _) _
 have hVL:M.At (zgp S w.heap.size) V3 (zeu d.bufs) (.slice q1 d.bufs.length c1):=by
  rw[hV3];exact zgq HL1'.o 4 _
 have hVK:M.At (zgp S w.heap.size) V3 (.many 6 (d.kids.map dtR)) (.slice q2 d.kids.length c2):=by
  rw[hV3];exact zgq HL2.o 4 _
 have hV3s:w.heap.size+2<=V3.heap.size:=by
  rw[hV3,World.size_setCell];have:=HZ3.o;have:=HVS.o;omega
 rw[<-hV3];have V1':=zh v1;have VV2':=zh v2;have HVB':=zh hVB;have HVL':=zh hVL;have HVK':=zh hVK;have HVS':=zh hV3s;clear v1 v2 hVB hVL hVK hV3s hV3 y4 y5 z4 hlt1 V1 VV2 HVB HVL HVS HL2 HL1' B1' B2';refine(zfL (fun b hb=>HS.o b (Nat.le_trans HVS'.o hb)) (ziu HDI.o HVB'.o) HL.o.2.2 (fun g hg=>HI.o g (.inr hg))).mono ?_;rintro e W4 ⟨q3,c3,rfl,hkl,hb⟩;have b1:=V1'.o.below hb V1'.o.lt;have b2:=VV2'.o.below hb VV2'.o.lt;have HB4:=zh (HVB'.o.trans (hb.mono HVB'.o.size));have HL1:=zh (M.At.below hb HVL'.o);have HL2:=zh (M.At.below hb HVK'.o);have HL3:=zh hkl;have z5:=b1.frozen 5;obtain⟨y0,y1,y2,y3,y4,y5⟩:=rr6 b1.row;have hlt1:=b1.lt;obtain⟨m0,m1,m2,m3,m4,m5⟩:=rr6 b2.row;obtain⟨g0,g1,g2,g3,g4,g5⟩:=ff6 b2;have hlt2:=b2.lt;have B1:=zh b1;have B2:=zh b2;clear hkl hb b1 b2;go_wp2_with fail;have keep:∀ {m:M} {v:Value},M.At (zgp S w.heap.size) W4 m v->M.At S (zgo (W4.setCell ⟨w.heap.size,5,none⟩ (.slice q3 d.dict.length c3)) (w.heap.size+1) (.int .i64 d.len) (.int .i64 d.off) (.int .i64 d.nul) (.slice q1 d.bufs.length c1) (.slice q2 d.kids.length c2) (.slice q3 d.dict.length c3)) m v:=fun h=>(zgq h 5 _).keep fun b hs _=>⟨zbJ hs.2.2 _ _ _ _ _ _,hs.1⟩;refine zqv (i:=2) rfl (zfv rfl (B2.o.other (by show w.heap.size+1≠w.heap.size;omega) _) _ _ _ _ _ _) (keep HL1.o) (keep HL2.o) (keep HL3.o) (zez (HB4.o.setCell (p:=⟨w.heap.size,5,none⟩) (Nat.le_refl _) _) (by omega) _ _ _ _ _ _) rfl
theorem zkZ {d:Dt}(h:DtFew d):∀(S:Nat->Prop) (w:World) (cs:List Value),(∀b,w.heap.size<=b->S b)->DAt S w d cs->Calls Tryz.prog 37 #[.agg cs.toArray] w (zhg S w d):=by
 induction h with
 | mk hl hk hd ihk ihd=>exact fun S w cs hS hd'=>zmc hS hd' hl.1 (Nat.le_trans hl.2.1 (by decide)) (Nat.le_trans hl.2.2 (by decide)) (fun g hg=>hg.elim (ihk g) (ihd g))
end Go.Fld
namespace Go.Fld
open Go Go.RowKit Go.Proofs Go.ChangeShapes Go.WideShapes Go.ChangeAt Go.Shelf
def zcj (p:Option Addr)(n:Nat):Value:=.agg #[.slice p n n,.int .i64 0,.pointer none]
def zaM (w:World)(v:Value)(e:Ending)(w':World):Prop:=e=.returned v/\Below w.heap.size w w'
theorem zk0 {fn:Func}{i:Nat}(hfn:fn.results=#[.cell i 202]){W:World}{tmps:Array Value}{rb:Nat}{c0 c1 c2:Value}(ht:tmps.getD i undef=.pointer (some ⟨rb,0,none⟩))(hw:RowAt W rb [c0,c1,c2]) :
  (results fn tmps).run Tryz.prog W=.ok (.agg #[c0,c1,c2]) W:=by
 have h0:=hw 0 _ rfl;have h1:=hw 1 _ rfl;have h2:=hw 2 _ rfl;rw[Array.getD_eq_getD_getElem?] at ht;simp[results,hfn,go_sem,ht,h0,h1,h2]
theorem zjY {fn:Func}{i:Nat}(hfn:fn.results=#[.cell i 202]){w W:World}{rb:Nat}{c0 c1 c2:Value}(hbx:BoxN W rb 202 [c0,c1,c2])(hB:Below w.heap.size w W)
  {tmps:Array Value} (ht:tmps.getD i undef=.pointer (some ⟨rb,0,none⟩)):bodyPost Tryz.prog fn (zaM w (.agg #[c0,c1,c2])) Exit.ret { tmps:=tmps,defers:=[] } W:=
 bodyPost_ret (zk0 hfn ht hbx.row) rfl ⟨rfl,hB⟩
theorem zpr (p:Option Addr)(n c:Nat)(hn:n<=c)(hc:c<=maxLen)(w:World):Calls Tryz.prog 112 #[.slice p n c] w (zaM w (zcj p n)):=by
 unfold maxLen at hc
 go_in
 go_wp2_with fail;exact zjY (i:=2) rfl (BoxN.new w 202 [.slice p n n,.int .i64 0,.pointer none]) ((Below.refl _ w).alloc (Nat.le_refl _) _) rfl
theorem zkt (p:Option Addr)(n:Nat)(w:World):Calls Tryz.prog 113 #[zcj p n,.pointer none] w (zaM w (zcj p n)):=by
 unfold zcj
 go_in
 go_wp2_with fail;exact zjY (i:=4) rfl (BoxN.new' (World.size_alloc _ _) 202 [.slice p n n,.int .i64 0,.pointer none]) (((Below.refl _ w).alloc (Nat.le_refl _) _).alloc (by simp) _) rfl
theorem zfW (p:Option Addr)(n a k:Nat)(hn:n<=9223372036854775807)(ha:a<=4611686018427387904)(hk:k<=4611686018427387904)(w:World):Calls Tryz.prog 114 #[zcj p n,.int .i64 a,.int .i64 k] w (zaM w (.bool (decide (a+k<=n)))):=by
 unfold zcj;have hB:Below w.heap.size w (w.alloc (.cells #[.slice p n n,.int .i64 0,.pointer none] 202)):=(Below.refl _ w).alloc (Nat.le_refl _) _;have HB:=zh hB;clear hB;by_cases h:a<=n
 ·by_cases h2:k<=n-a
  ·have h3:(k:Int)<=(n:Int)-(a:Int):=by omega
   have HE:=zh (show decide (a+k<=n)=true from decide_eq_true (by omega));rw[HE.o]
   go_in
   go_wp2_with fail;go_ret;exact⟨rfl,HB.o⟩
  ·have h3:¬(k:Int)<=(n:Int)-(a:Int):=by omega
   have HE:=zh (show decide (a+k<=n)=false from decide_eq_false (by omega));rw[HE.o]
   go_in
   go_wp2_with fail;go_ret;exact⟨rfl,HB.o⟩
 ·have HE:=zh (show decide (a+k<=n)=false from decide_eq_false (by omega));have h':decide (a<=n)=false:=decide_eq_false h;rw[HE.o]
  go_in
  go_wp2_with fail;go_ret;exact⟨rfl,HB.o⟩
def zqw (w:World)(p:Option Addr)(a k:Nat)(e:Ending)(w':World):Prop:=∃q,e=.returned (.slice q k k)/\(0<k->∀b o,p=some ⟨b,o,none⟩->q=some ⟨b,o+a,none⟩)/\(p=none->q=none)/\Below w.heap.size w w'
theorem zgr (p:Option Addr)(n a k:Nat)(hn:n<=9223372036854775807)(h:a+k<=n)(w:World):Calls Tryz.prog 115 #[zcj p n,.int .i64 a,.int .i64 k] w (zqw w p a k):=by
 unfold zcj;have hB:Below w.heap.size w (w.alloc (.cells #[.slice p n n,.int .i64 0,.pointer none] 202)):=(Below.refl _ w).alloc (Nat.le_refl _) _;have HB:=zh hB;clear hB;by_cases h0:k=0
 ·subst h0
  go_in
  go_wp2_with fail;go_ret;exact⟨_,rfl,(fun h=>absurd h (by omega)),(fun e=>e),HB.o⟩
 ·have h1:¬a+k=a:=by omega
  have h2:(0:Int)<(k:Int):=by omega
  go_in
  go_wp2_with fail;go_ret;refine⟨p.map (fun x=>x.add a),?_,(fun _ b o e=>by rw[e];exact congrArg some (Addr.add_lit ..)),(fun e=>by rw[e];rfl),HB.o⟩;show Ending.returned (.slice _ (a+k-a) (a+k-a))=_;rw[Nat.add_sub_cancel_left]
theorem znc (k:Nat)(w:World):Calls Tryz.prog 221 #[.int .i64 k] w (zaz w (.bool (decide (k=1) || (decide (k=2) || (decide (k=4) || decide (k=8)))))):=by
 by_cases h1:k=1
 ·subst h1
  go_in
  go_wp2_with fail;go_ret;exact zav rfl rfl
 by_cases h2:k=2
 ·subst h2
  go_in
  go_wp2_with fail;go_ret;exact zav rfl rfl
 by_cases h4:k=4
 ·subst h4
  go_in
  go_wp2_with fail;go_ret;exact zav rfl rfl
 by_cases h8:k=8
 ·subst h8
  go_in
  go_wp2_with fail;go_ret;exact zav rfl rfl
 have HE:=zh (show(decide (k=1) || (decide (k=2) || (decide (k=4) || decide (k=8))))=false by simp[h1,h2,h4,h8]);have q1:((k:Int) == 1)=false:=beq_eq_false_iff_ne.2 (by omega);have q2:((k:Int) == 2)=false:=beq_eq_false_iff_ne.2 (by omega);have q4:((k:Int) == 4)=false:=beq_eq_false_iff_ne.2 (by omega);have q8:((k:Int) == 8)=false:=beq_eq_false_iff_ne.2 (by omega);rw[HE.o];clear h1 h2 h4 h8
 go_in
 go_wp2_with fail;go_ret;exact zav rfl rfl
theorem zk1 {w:World}{s:ByteArray}{b o a k c:Nat}(hc:∀j,j<k->w.cell? ⟨b,o+j,none⟩=some (.int .u8 (zaq s (a+j))))(hk:k<=8)(hkc:k<=c)(hcm:c<=9223372036854775807) :
  Calls Tryz.prog 222 #[.slice (some ⟨b,o,none⟩) k c] w (zaz w (.int .u64 (zbn s a k))):=by
 have HX:=zh hc;clear hc;have HLE:=zh (show zbn s a 0=0 from rfl)
 go_in
 go_wp2_with fail
 go_loop [3,8] (fun t i=>∃j:Nat,j<=k/\i=.int .i64 j/\t=.int .u64 (zbn s a j)) (fun _ i=>k-(intOf i).toNat)
 case atStart=>exact⟨0,by omega,rfl,by rw[HLE.o]⟩
 case round=>
  obtain⟨j,hj,rfl,rfl⟩:=hrel;by_cases hlt:j<k
  ·have xk:=HX.o j hlt;have hbb:=za1 s (a+j);obtain⟨v,hv⟩:=nm (zaq s (a+j));have HST:=zh (show zbn s a (j+1)=bits BinOp.or IntKind.u64 (zbn s a j) (IntKind.u64.wrap (v*2 ^ (8*j))) by rw[hv];rfl);rw[<-hv] at xk hbb;clear hv;go_simp;go_wp2_with fail;refine⟨⟨.int .u64 (zbn s a (j+1)),_,_,.int .i64 ((j+1:Nat):Int),⟨j+1,by omega,rfl,rfl⟩,by rw[HST.o],rfl,rfl,by go_num⟩,by simp only[intOf];omega⟩
  ·obtain rfl:k=j:=by omega
   go_wp2_with fail;go_ret;exact zav rfl rfl
def inE (n m:Nat):Int:=if m<=n then 0 else 2
theorem ziX {n m:Nat}(h:m<=n):inE n m=0:=if_pos h
theorem zhU {n m:Nat}(h:¬m<=n):inE n m=2:=if_neg h
def zbA (s:ByteArray)(a k:Nat):Int:=if a+k<=s.size then zbn s a k else 0
theorem zgs {s:ByteArray}{a k:Nat}(h:a+k<=s.size):zbA s a k=zbn s a k:=if_pos h
theorem zhh {s:ByteArray}{a k:Nat}(h:¬a+k<=s.size):zbA s a k=0:=if_neg h
theorem zfX (s:ByteArray)(a k:Nat):0<=zbA s a k/\zbA s a k<=18446744073709551615:=by
 unfold zbA;split
 ·exact zd4 s a k
 ·omega
theorem zgt {w:World}{s:ByteArray}{p:Option Addr}{c:Nat}(h:M.At (fun _=>True) w (zby s) (.slice p s.size c))(i:Nat)(hi:i<=1000000000000) :
  Calls Tryz.prog 107 #[zcj p s.size,.int .i64 i] w (zaM w (.tuple #[.int .u8 (zaq s i),.int .i64 (inE s.size (i+1))])):=by
 obtain⟨⟨-,hs1,hs2⟩,hb⟩:=zaZ h;unfold maxLen at hs2;have HT:=zh (zfW p s.size i 1 (by omega) (by omega) (by omega));have HR:=zh (zgr p s.size i 1 (by omega));have HB:=zh hb;obtain⟨W,hW⟩:=nm (w.alloc (.cells #[.slice p s.size s.size,.int .i64 0,.pointer none] 202));have hBW:Below w.heap.size w W:=by rw[hW];exact(Below.refl _ w).alloc (Nat.le_refl _) _
 have a1:BoxN W w.heap.size 202 [.slice p s.size s.size,.int .i64 0,.pointer none]:=by rw[hW];exact BoxN.new w 202 _
 have HBW:=zh hBW;have A1:=zh a1;have HW:=zh hW;obtain⟨l0,l1,l2⟩:=rr3 a1.row;have hlt:=a1.lt;clear h hb hBW a1 hW;unfold zcj
 go_in
 go_wp2_with fail;rw[<-HW.o];clear HW;refine(HT.o W).mono ?_;rintro e W2 ⟨rfl,hb2⟩;have HB2:=zh (HBW.o.trans (hb2.mono HBW.o.size));have b1:=A1.o.below hb2 A1.o.lt;obtain⟨m0,m1,m2⟩:=rr3 b1.row;have hlt2:=b1.lt;clear hb2 b1;by_cases hi2:i+1<=s.size
 ·have HD:=zh (show decide (i+1<=s.size)=true from decide_eq_true hi2);obtain⟨b,o,rfl,-,x0⟩:=HB.o i (by omega);have HX:=zh x0;have HE:=zh (ziX hi2);rw[HD.o];clear hi2 x0;go_wp2_with fail;refine(HR.o (by have:=of_decide_eq_true HD.o;omega) W2).mono ?_;rintro e W3 ⟨q,rfl,hq,-,hb3⟩;obtain rfl:=hq (by omega) b o rfl;have x1:=zaa hb3 (zaa HB2.o HX.o);have HB3:=zh (HB2.o.trans (hb3.mono HB2.o.size));clear hq hb3;go_wp2_with fail;go_ret2;exact⟨by rw[HE.o];rfl,HB3.o⟩
 ·have HD:=zh (show decide (i+1<=s.size)=false from decide_eq_false hi2);have HE:=zh (zhU hi2);have HE2:=zh (show zaq s i=0 by
   unfold zaq;rw[Array.getElem?_eq_none (by have:s.data.size=s.size:=rfl;omega)];rfl)
  rw[HD.o];clear hi2;go_wp2_with fail;go_ret2;exact⟨by rw[HE.o,HE2.o];rfl,HB2.o⟩
theorem ziY {w:World}{s:ByteArray}{p:Option Addr}{c:Nat}(h:M.At (fun _=>True) w (zby s) (.slice p s.size c))(a k:Nat)(ha:a<=1000000000000)(hk:k=1\/k=2\/k=4\/k=8) :
  Calls Tryz.prog 220 #[zcj p s.size,.int .i64 a,.int .i64 k] w (zaM w (.tuple #[.int .u64 (zbA s a k),.int .i64 (inE s.size (a+k))])):=by
 obtain⟨⟨-,hs1,hs2⟩,hb⟩:=zaZ h;unfold maxLen at hs2;have hk8:k<=8/\0<k:=by omega
 have HT:=zh (zfW p s.size a k (by omega) (by omega) (by omega));have HR:=zh (zgr p s.size a k (by omega));have HWD:=zh (show(decide (k=1) || (decide (k=2) || (decide (k=4) || decide (k=8))))=true by simpa using hk);have HB:=zh hb;obtain⟨W,hW⟩:=nm (w.alloc (.cells #[.slice p s.size s.size,.int .i64 0,.pointer none] 202));have hBW:Below w.heap.size w W:=by rw[hW];exact(Below.refl _ w).alloc (Nat.le_refl _) _
 have a1:BoxN W w.heap.size 202 [.slice p s.size s.size,.int .i64 0,.pointer none]:=by rw[hW];exact BoxN.new w 202 _
 have HBW:=zh hBW;have A1:=zh a1;have HW:=zh hW;obtain⟨l0,l1,l2⟩:=rr3 a1.row;have hlt:=a1.lt;clear h hb hBW a1 hW hk;obtain⟨hk8,hk0⟩:=hk8;unfold zcj
 go_in
 go_wp2_with fail;rw[<-HW.o];clear HW;refine(znc k W).mono ?_;rintro e W1 ⟨rfl,rfl⟩;rw[HWD.o];go_wp2_with fail;refine(HT.o _).mono ?_;rintro e W2 ⟨rfl,hb2⟩;have HB2:=zh (HBW.o.trans (hb2.mono HBW.o.size));have b1:=A1.o.below hb2 A1.o.lt;obtain⟨m0,m1,m2⟩:=rr3 b1.row;have hlt2:=b1.lt;clear hb2 b1;by_cases hi2:a+k<=s.size
 ·have HD:=zh (show decide (a+k<=s.size)=true from decide_eq_true hi2);obtain⟨b,o,rfl,-,-⟩:=HB.o a (by omega);have HX:=zh (show ∀j,j<k->w.cell? ⟨b,o+a+j,none⟩=some (.int .u8 (zaq s (a+j))) from fun j hj=>by
   obtain⟨b',o',e,-,x⟩:=HB.o (a+j) (by omega);cases e
   rwa [<-Nat.add_assoc] at x)
  have HE:=zh (ziX hi2);have HE2:=zh (zgs hi2);rw[HD.o];clear hi2;go_wp2_with fail;refine(HR.o (of_decide_eq_true HD.o) W2).mono ?_;rintro e W3 ⟨q,rfl,hq,-,hb3⟩;obtain rfl:=hq hk0 b o rfl;have HB3:=zh (HB2.o.trans (hb3.mono HB2.o.size));have HC:=zh (show ∀j,j<k->W3.cell? ⟨b,o+a+j,none⟩=some (.int .u8 (zaq s (a+j))) from fun j hj=>zaa hb3 (zaa HB2.o (HX.o j hj)));clear hq hb3;go_wp2_with fail;refine(zk1 HC.o hk8 (Nat.le_refl _) (by omega)).mono ?_;rintro e W4 ⟨rfl,rfl⟩;go_wp2_with fail;go_ret2;exact⟨by rw[HE.o,HE2.o];rfl,HB3.o⟩
 ·have HD:=zh (show decide (a+k<=s.size)=false from decide_eq_false hi2);have HE:=zh (zhU hi2);have HE2:=zh (zhh hi2);rw[HD.o];clear hi2;go_wp2_with fail;go_ret2;exact⟨by rw[HE.o,HE2.o];rfl,HB2.o⟩
def zbc (s:ByteArray)(a k:Nat):Int:=
 if k=1 then wrap64 (IntKind.u64.wrap (zbA s a k*72057594037927936)) / 72057594037927936
 else if k=2 then wrap64 (IntKind.u64.wrap (zbA s a k*281474976710656)) / 281474976710656
 else if k=4 then wrap64 (IntKind.u64.wrap (zbA s a k*4294967296)) / 4294967296
 else wrap64 (zbA s a k)
theorem zgu (s:ByteArray)(a k:Nat):-9223372036854775808<=zbc s a k/\zbc s a k<=9223372036854775807:=by
 have h:=zfX s a k;unfold zbc;generalize zbA s a k=x at *;split
 ·generalize IntKind.u64.wrap _=y;unfold wrap64;omega
 split
 ·generalize IntKind.u64.wrap _=y;unfold wrap64;omega
 split
 ·generalize IntKind.u64.wrap _=y;unfold wrap64;omega
 ·unfold wrap64;omega
theorem zps {s:ByteArray}{a k:Nat}(h:¬a+k<=s.size):zbc s a k=0:=by
 have h0:=zhh h;unfold zbc;rw[h0];have e':wrap64 0=0:=by unfold wrap64;omega
 have e:wrap64 (IntKind.u64.wrap 0)=0:=show wrap64 (0 % 18446744073709551616)=0 from e'
 simp only[Int.zero_mul,e,e'];simp
theorem zdl {w:World}{s:ByteArray}{p:Option Addr}{c:Nat}(h:M.At (fun _=>True) w (zby s) (.slice p s.size c))(a k:Nat)(ha:a<=1000000000000)(hk:k=1\/k=2\/k=4\/k=8) :
  Calls Tryz.prog 219 #[zcj p s.size,.int .i64 a,.int .i64 k] w (zaM w (.tuple #[.int .i64 (zbc s a k),.int .i64 (inE s.size (a+k))])):=by
 have HL:=zh (fun(W:World) (hb:Below w.heap.size w W)=>ziY (M.At.below hb h) a k ha hk);obtain⟨W,hW⟩:=nm (w.alloc (.cells #[.slice p s.size s.size,.int .i64 0,.pointer none] 202));have hBW:Below w.heap.size w W:=by rw[hW];exact(Below.refl _ w).alloc (Nat.le_refl _) _
 have a1:BoxN W w.heap.size 202 [.slice p s.size s.size,.int .i64 0,.pointer none]:=by rw[hW];exact BoxN.new w 202 _
 have HBW:=zh hBW;have A1:=zh a1;have HW:=zh hW;obtain⟨l0,l1,l2⟩:=rr3 a1.row;have hlt:=a1.lt;have hlb:=zfX s a k;have HSG:=zh (show zbc s a k=_ from rfl);clear h hBW a1 hW;unfold zcj;obtain⟨x,hx⟩:=nm (zbA s a k);have HX:=zh hx;rw[<-hx] at hlb;clear hx HSG;by_cases hi2:a+k<=s.size
 ·have HE:=zh (ziX hi2);rw[HE.o];clear hi2;rcases hk with rfl|rfl|rfl|rfl
  all_goals
   go_in
   go_wp2_with fail;rw[<-HW.o];refine(HL.o W HBW.o).mono ?_;rintro e W2 ⟨rfl,hb2⟩;rw[HE.o,<-HX.o];have HB2:=zh (HBW.o.trans (hb2.mono HBW.o.size));clear hb2;go_wp2_with fail;go_ret2;exact⟨by unfold zbc;rw[<-HX.o];rfl,HB2.o⟩
 ·have HE:=zh (zhU hi2);have HE2:=zh (zps hi2);have HX0:=zh (zhh hi2);rw[HE.o,HE2.o];clear hi2 hlb
  go_in
  go_wp2_with fail;rw[<-HW.o];refine(HL.o W HBW.o).mono ?_;rintro e W2 ⟨rfl,hb2⟩;rw[HE.o,HX0.o];have HB2:=zh (HBW.o.trans (hb2.mono HBW.o.size));clear hb2;go_wp2_with fail;go_ret2;exact⟨rfl,HB2.o⟩
theorem znd:Tryz.prog.underlying 58=some (.slice 5):=by kernel_rfl
theorem zpt:Tryz.prog.underlying 5=some (.int .u8):=by kernel_rfl
theorem zpu:Tryz.prog.underlying 9=some .string:=by kernel_rfl
theorem zpv {w:World}{q:Option Addr}{k c:Nat}(bs:List UInt8)(hk:k=bs.length)(hcells:∀i (h:i<bs.length),∃b o,q=some ⟨b,o,none⟩/\w.cell? ⟨b,o+i,none⟩=some (.int .u8 (bs[i].toNat:Int))) :
  (convert 58 9 (.slice q k c)).run Tryz.prog w=.ok (.string ⟨bs.toArray⟩) w:=by
 subst hk;cases q with
 | none=>
  have hb0:bs=[]:=by
   cases bs with
   | nil=>rfl
   | cons b r=>obtain⟨_,_,e,_⟩:=hcells 0 (by simp);cases e
  subst hb0;exact run_convert_bytes_nil (P:=Tryz.prog) w 58 5 znd zpt _ _ 9 zpu
 | some a=>
  by_cases h0:bs.length=0
  ·have hb0:bs=[]:=List.eq_nil_of_length_eq_zero h0;subst hb0;rw[run_convert_bytes_string w 58 9 5 _ _ _ znd zpt zpu];have:=run_bytesToString (P:=Tryz.prog) w a 0 c [] (by simp[loadCells,loadCellsFrom]);rw[show([]:List UInt8).length=0 from rfl,this];rfl
  ·obtain⟨b,o,hp,_⟩:=hcells 0 (by omega);cases hp;have:=run_convert_bytes_arg (P:=Tryz.prog) w 58 5 znd zpt b o bs.length c (bs.map fun x=>(x.toNat:Int)) (by simp) (fun i hi=>by
    obtain⟨b',o',hp',hc⟩:=hcells i (by simpa using hi);cases hp';have hi2:i<bs.length:=by simpa using hi
    rw[hc];simp[hi2]) 9 zpu
   rw[this]
   congr 2
   simp only[strOfNums,List.map_map]
   congr 1
   have:((fun n:Int=>UInt8.ofNat n.toNat) ∘ fun x:UInt8=>(x.toNat:Int))=id:=by funext x;simp
   rw[this,List.map_id]
def zbB (s:ByteArray)(a k:Nat):ByteArray:=if a+k<=s.size then⟨((s.data.toList.drop a).take k).toArray⟩ else⟨#[]⟩
theorem zgv {s:ByteArray}{a k:Nat}(h:a+k<=s.size):zbB s a k=⟨((s.data.toList.drop a).take k).toArray⟩:=if_pos h
theorem zoj {s:ByteArray}{a k:Nat}(h:¬a+k<=s.size):zbB s a k=⟨#[]⟩:=if_neg h
theorem zia {w:World}{s:ByteArray}{p:Option Addr}{c:Nat}(h:M.At (fun _=>True) w (zby s) (.slice p s.size c))(a k:Nat)(ha:a<=1000000000000)(hk:k<=1000000000000) :
  Calls Tryz.prog 218 #[zcj p s.size,.int .i64 a,.int .i64 k] w (zaM w (.tuple #[.string (zbB s a k),.int .i64 (inE s.size (a+k))])):=by
 obtain⟨⟨-,hs1,hs2⟩,hb⟩:=zaZ h;unfold maxLen at hs2;have HT:=zh (zfW p s.size a k (by omega) (by omega) (by omega));have HR:=zh (zgr p s.size a k (by omega));have HB:=zh hb;obtain⟨W,hW⟩:=nm (w.alloc (.cells #[.slice p s.size s.size,.int .i64 0,.pointer none] 202));have hBW:Below w.heap.size w W:=by rw[hW];exact(Below.refl _ w).alloc (Nat.le_refl _) _
 have a1:BoxN W w.heap.size 202 [.slice p s.size s.size,.int .i64 0,.pointer none]:=by rw[hW];exact BoxN.new w 202 _
 have HBW:=zh hBW;have A1:=zh a1;have HW:=zh hW;obtain⟨l0,l1,l2⟩:=rr3 a1.row;have hlt:=a1.lt;clear h hb hBW a1 hW;unfold zcj
 go_in
 go_wp2_with fail;rw[<-HW.o];clear HW;refine(HT.o _).mono ?_;rintro e W2 ⟨rfl,hb2⟩;have HB2:=zh (HBW.o.trans (hb2.mono HBW.o.size));have b1:=A1.o.below hb2 A1.o.lt;obtain⟨m0,m1,m2⟩:=rr3 b1.row;have hlt2:=b1.lt;clear hb2 b1;by_cases hi2:a+k<=s.size
 ·have HD:=zh (show decide (a+k<=s.size)=true from decide_eq_true hi2);have HE:=zh (ziX hi2);have HE2:=zh (zgv hi2);rw[HD.o];have hbl:((s.data.toList.drop a).take k).length=k:=by
   have:s.data.toList.length=s.size:=by simp
   rw[List.length_take,List.length_drop,this];omega
  have HBL:=zh hbl;have HI2:=zh hi2;clear hi2 hbl;go_wp2_with fail;refine(HR.o (of_decide_eq_true HD.o) W2).mono ?_;rintro e W3 ⟨q,rfl,hq,hq0,hb3⟩;have HB3:=zh (HB2.o.trans (hb3.mono HB2.o.size));have hcv:=zpv (w:=W3) (q:=q) (k:=k) (c:=k) ((s.data.toList.drop a).take k) HBL.o.symm (fun i hi=>by
   have hi':i<k:=by rwa [HBL.o] at hi
   obtain⟨b,o,hp,-,x⟩:=HB.o (a+i) (by have:=HI2.o;omega);refine⟨b,o+a,hq (by omega) b o hp,?_⟩;rw[Nat.add_assoc];rw[zaa hb3 (zaa HB2.o x)]
   congr 2
   unfold zaq;have hlt':a+i<s.data.size:=by have:=HI2.o;have:s.data.size=s.size:=rfl;omega
   rw[Array.getElem?_eq_getElem hlt',Option.getD_some];simp)
  clear hq hq0 hb3;go_wp2_with fail;go_ret2;exact⟨by rw[HE.o,HE2.o];rfl,HB3.o⟩
 ·have HD:=zh (show decide (a+k<=s.size)=false from decide_eq_false hi2);have HE:=zh (zhU hi2);have HE2:=zh (zoj hi2);rw[HD.o];clear hi2;go_wp2_with fail;go_ret2;exact⟨by rw[HE.o,HE2.o];rfl,HB2.o⟩
end Go.Fld
