import Derived.Test.YthocbeghnkacnaaGreatDoorT30
set_option linter.unusedVariables false
set_option linter.unusedSimpArgs false
set_option linter.unnecessarySimpa false
set_option maxRecDepth 100000
set_option maxHeartbeats 16000000
namespace Go.Fld
open Go Go.RowKit Go.Proofs Go.ChangeShapes Go.WideShapes Go.ChangeAt Go.Shelf Go.Fld.Late
inductive Agg where
 | number (a n:Nat) (r:Bool)
 | floats (a n:Nat) (z:Int) (ab be no so:Bool)
 | wholes (a n:Nat) (k:Int) (z:Int)
 | bound (a n:Nat) (f:Fd) (most:Bool) (best:Vl)
 | aend (a n:Nat) (last:Bool) (one:Vl)
 | logic (a n:Nat) (all1:Bool) (trues:Int)
def Agg.all:Agg->Nat
 | .number a _ _=>a | .floats a _ _ _ _ _ _=>a | .wholes a _ _ _=>a | .bound a _ _ _ _=>a | .aend a _ _ _=>a | .logic a _ _ _=>a
def Agg.nulls:Agg->Nat
 | .number _ n _=>n | .floats _ n _ _ _ _ _=>n | .wholes _ n _ _=>n | .bound _ n _ _ _=>n | .aend _ n _ _=>n | .logic _ n _ _=>n
abbrev zbW (n:Nat):Value:=.int .i64 (n:Int)
def zjE (O:Nat->Prop)(w:World)(b zb:Nat):Agg->TypeId->List Value->Prop
 | .number _ _ r,t,cs=>t=88/\cs=[.bool r]
 | .floats _ _ z ab be no so,t,cs=>t=95/\cs=[.pointer (some ⟨zb,0,none⟩),.bool ab,.bool be,.bool no,.bool so]/\IntAt (fun k=>¬O k) w zb z/\zb≠b
 | .wholes _ _ k z,t,cs=>t=98/\(∃nm nl wd id ix p m c,cs=[.string nm,.bool nl,.int .i64 k,.int .i64 wd,.int .i64 id,.int .i64 ix,.slice p m c,.pointer (some ⟨zb,0,none⟩)])/\IntAt (fun k=>¬O k) w zb z/\zb≠b
 | .bound _ _ f most best,t,cs=>t=101/\∃fcs vcs,cs=fcs ++ .bool most :: vcs/\fcs.length=7/\M.AtL (fun k=>¬O k) w (fdR f) fcs/\VAt (fun k=>¬O k) w best vcs
 | .aend _ _ last one,t,cs=>t=104/\∃vcs,cs=.bool last :: vcs/\VAt (fun k=>¬O k) w one vcs
 | .logic _ _ all1 trues,t,cs=>t=107/\cs=[.bool all1,.int .i64 trues]
structure AggAt (O:Nat->Prop)(w:World)(b zb:Nat)(s:Agg):Prop where
 own:O b/\O zb
 lt:∀k,O k->k<w.heap.size
 cells:∃t cs,BoxN w b t (zbW s.all :: zbW s.nulls :: cs)/\zjE O w b zb s t cs
def zas (b zb:Nat)(k:Nat):Prop:=k=b\/k=zb
def zb6 (O:Nat->Prop)(w:World)(b zb:Nat)(s:Agg)(e:Ending)(w':World):Prop:=e=.returned (.tuple #[])/\Chg (zas b zb) w w'/\AggAt O w' b zb s
theorem zlA {O C:Nat->Prop}{w w':World}(h:Chg C w w'){b zb:Nat}{s:Agg}{t:TypeId}{cs:List Value}(hz:¬C zb)(hC:∀k,C k->O k)(ha:zjE O w b zb s t cs):zjE O w' b zb s t cs:=by
 have hS:∀k,¬O k->¬C k:=fun k hk hc=>hk (hC k hc);cases s with
 | number a n r=>exact ha
 | logic a n l tr=>exact ha
 | floats a n z ab be no so=>
  obtain⟨h1,h2,h3,h4⟩:=ha;exact⟨h1,h2,h3.keep (h.block _ h3.lt hz) (fun k hk hl=>⟨h.block k hl (hS k hk),hk⟩),h4⟩
 | wholes a n f z=>
  obtain⟨h1,h2,h3,h4⟩:=ha;exact⟨h1,h2,h3.keep (h.block _ h3.lt hz) (fun k hk hl=>⟨h.block k hl (hS k hk),hk⟩),h4⟩
 | bound a n f most best=>
  obtain⟨h1,fcs,vcs,h2,h3,h4,h5⟩:=ha;exact⟨h1,fcs,vcs,h2,h3,h.atL h4 hS,h.atL h5 hS⟩
 | aend a n last one=>
  obtain⟨h1,vcs,h2,h3⟩:=ha;exact⟨h1,vcs,h2,h.atL h3 hS⟩
theorem AggAt.keep {O C:Nat->Prop}{w w':World}(h:Chg C w w'){b zb:Nat}{s:Agg}(hb:¬C b)(hz:¬C zb)(hC:∀k,C k->O k)(ha:AggAt O w b zb s):AggAt O w' b zb s:=by
 obtain⟨h1,h2,t,cs,h3,h4⟩:=ha;exact⟨h1,fun k hk=>Nat.lt_of_lt_of_le (h2 k hk) h.size,t,cs,h.boxN h3 hb,zlA h hz hC h4⟩
theorem AggAt.below {O:Nat->Prop}{w w':World}(h:Below w.heap.size w w'){b zb:Nat}{s:Agg}(ha:AggAt O w b zb s):AggAt O w' b zb s:=ha.keep (C:=fun _=>False) (Chg.below h) (fun h=>h) (fun h=>h) (fun _ h=>h.elim)
def zre (a n:Nat)(r:Bool):Int:=if r then(a:Int) else(a:Int)-n
theorem zmx {O:Nat->Prop}{w:World}{b zb a n:Nat}{r:Bool}(h:AggAt O w b zb (.number a n r))(ha:a<=2147483647)(hn:n<=2147483647)(nl:Bool)(c1 c2 c3:Value) :
  Calls Tryz.prog 136 #[.pointer (some ⟨b,0,none⟩),.agg #[.bool nl,c1,c2,c3]] w (zb6 O w b zb (.number (a+1) (zaO n nl) r)):=by
 obtain⟨hO,hlt,t,cs,hb,ht,hcs⟩:=h;obtain⟨W1,hW,a0,hBW⟩:=zao w 39 [.bool nl,c1,c2,c3];have HW:=zh hW;have HB:=zh hBW;have HBX:=zh hb;have HO:=zh hO;have HLT:=zh hlt;have HT:=zh ht;have HCS:=zh hcs;have HA:=zh a0;clear hW hBW hb hO hlt ht hcs a0
 go_in
 go_wp2_with fail;rw[show w.alloc (Obj.cells #[.bool nl,c1,c2,c3] 39)=W1 from HW.o.symm];obtain⟨u,hu⟩:=Fld.nm (w.heap.size);rw[<-hu] at HA ⊢;clear hu HW;obtain⟨V,hV⟩:=Fld.nm (W1.drew);have HV:=zh (show Below w.heap.size w V by rw[hV];exact zaf HB.o);have HS:=zh (show RowAt V u [.bool nl,c1,c2,c3] by rw[hV];exact HA.o.row);refine Late.region (fun w'=>RowAt w' u [.bool nl,c1,c2,c3]) (fun j=>decide (4<=j)) rfl ?_;rw[<-hV];clear hV;refine Late.tb (i:=0) (v:=?_) ?_ HS.o ?_;rotate_left
 ·intro w' hS;clear hS;go_simp;rfl
 refine Late.tb (i:=1) (v:=?_) ?_ HS.o ?_;rotate_left
 ·intro w' hS;clear hS;go_simp;rfl
 refine Late.tb (i:=2) (v:=?_) ?_ HS.o ?_;rotate_left
 ·intro w' hS;clear hS;go_simp;rfl
 refine Late.tb (i:=3) (v:=?_) ?_ HS.o ?_;rotate_left
 ·intro w' hS;have p0:=hS 0 _ rfl;have p1:=hS 1 _ rfl;have p2:=hS 2 _ rfl;have p3:=hS 3 _ rfl;clear hS;go_simp;rfl
 refine Late.on (i:=4) fun K hK=>?_;go_simp;refine(zbU (HBX.o.below HV.o HBX.o.lt) ha hn nl c1 c2 c3).mono ?_;rintro e w2 ⟨rfl,h1,h2⟩;have HG:=zh h1;have HB2:=zh h2;clear h1 h2;refine hK _ _ (fun h=>by cases h) ?_;clear hK K;refine Late.done (by kernel_rfl) ?_ _;have HC:Hid (Chg (zas b zb) w w2):=zh ((Chg.below HV.o).trans (Chg.grown HG.o (.inl rfl)));go_wp2_with fail;go_end0;exact⟨rfl,HC.o,HO.o,fun k hk=>Nat.lt_of_lt_of_le (HLT.o k hk) HC.o.size,t,cs,HB2.o,HT.o,HCS.o⟩
def zd9 (w:World)(v:Vl)(err:Int)(e:Ending)(w':World):Prop:=Below w.heap.size w w'/\∃cs,e=.returned (.tuple #[.agg cs.toArray,.int .i64 err])/\VAt (fun b=>w.heap.size<=b) w' v cs
theorem zoO {fn:Func}{i j:Nat}(hfn:fn.results=#[.cell i 39,.tmp j]){W:World}{tmps:Array Value}{rb:Nat}{c0 c1 c2 c3 x:Value}(ht:tmps.getD i undef=.pointer (some ⟨rb,0,none⟩))(hj:tmps.getD j undef=x)(hw:RowAt W rb [c0,c1,c2,c3]) :
  (results fn tmps).run Tryz.prog W=.ok (.tuple #[.agg #[c0,c1,c2,c3],x]) W:=by
 have h0:=hw 0 _ rfl;have h1:=hw 1 _ rfl;have h2:=hw 2 _ rfl;have h3:=hw 3 _ rfl;rw[Array.getD_eq_getD_getElem?] at ht hj;simp[results,hfn,go_sem,ht,hj,h0,h1,h2,h3]
theorem zcw {fn:Func}{i j:Nat}(hfn:fn.results=#[.cell i 39,.tmp j]){w W:World}{rb:Nat}{v:Vl}{err:Int}{c0 c1 c2 c3:Value}(hbx:BoxN W rb 39 [c0,c1,c2,c3])(hv:VAt (fun b=>w.heap.size<=b) W v [c0,c1,c2,c3])(hB:Below w.heap.size w W)
  {tmps:Array Value} (ht:tmps.getD i undef=.pointer (some ⟨rb,0,none⟩)) (hj:tmps.getD j undef=.int .i64 err):bodyPost Tryz.prog fn (zd9 w v err) Exit.ret { tmps:=tmps,defers:=[] } W:=
 bodyPost_ret (zoO hfn ht hj hbx.row) rfl ⟨hB,[c0,c1,c2,c3],rfl,hv⟩
theorem zlB {O:Nat->Prop}{w:World}{b zb a n:Nat}{r:Bool}(h:AggAt O w b zb (.number a n r))(ha:a<=2147483647)(hn:n<=2147483647):Calls Tryz.prog 137 #[.pointer (some ⟨b,0,none⟩)] w (zd9 w (.mk false (zre a n r) ⟨#[]⟩ []) 0):=by
 obtain⟨hO,hlt,t,cs,hb,rfl,rfl⟩:=h;have p0:w.cell? ⟨b,0,none⟩=some (.int .i64 (a:Int)):=hb.row 0 _ rfl;have p1:w.cell? ⟨b,1,none⟩=some (.int .i64 (n:Int)):=hb.row 1 _ rfl;have p2:w.cell? ⟨b,2,none⟩=some (.bool r):=hb.row 2 _ rfl;have hlb:=hb.lt;clear hO hlt hb;cases r with
 | true=>
  go_in
  go_wp2_with fail;exact zcw rfl (BoxN.new w 39 _) (VAt.flat _ _ _) ((Below.refl _ w).alloc (Nat.le_refl _) _) rfl rfl
 | false=>
  obtain⟨W1,hW,a0,hBW⟩:=zao w 39 [.bool false,.int .i64 0,.string ⟨#[]⟩,.slice none 0 0];have HW:=zh hW;have HB:=zh hBW;have HA:=zh a0;have HP:=zh (show W1.cell? ⟨b,0,none⟩=some (.int .i64 (a:Int))/\W1.cell? ⟨b,1,none⟩=some (.int .i64 (n:Int)) from⟨zaa hBW p0,zaa hBW p1⟩);clear hW hBW a0
  go_in
  go_wp2_with fail;rw[show w.alloc (Obj.cells #[.bool false,.int .i64 0,.string ⟨#[]⟩,.slice none 0 0] 39)=W1 from HW.o.symm];obtain⟨u,hu⟩:=Fld.nm (w.heap.size);rw[<-hu] at HA ⊢;have HU:=zh hu;clear hu HW p0 p1 p2;obtain⟨V,hV⟩:=Fld.nm (W1.drew);have HV:=zh (show Below w.heap.size w V by rw[hV];exact zaf HB.o);have HAV:=zh (show BoxN V u 39 [.bool false,.int .i64 0,.string ⟨#[]⟩,.slice none 0 0] by rw[hV];exact HA.o);have HS:=zh (show V.cell? ⟨b,0,none⟩=some (.int .i64 (a:Int))/\V.cell? ⟨b,1,none⟩=some (.int .i64 (n:Int)) by rw[hV];exact HP.o);refine Late.region (fun w'=>w'.cell? ⟨b,0,none⟩=some (.int .i64 (a:Int))/\w'.cell? ⟨b,1,none⟩=some (.int .i64 (n:Int))) (fun j=>decide (12<=j)) rfl ?_;rw[<-hV];clear hV;refine Late.tb (i:=0) (v:=?_) ?_ HS.o ?_;rotate_left
  ·intro w' hS;clear hS;go_simp;rfl
  refine Late.tb (i:=1) (v:=?_) ?_ HS.o ?_;rotate_left
  ·intro w' hS;clear hS;go_simp;rfl
  refine Late.tb (i:=2) (v:=?_) ?_ HS.o ?_;rotate_left
  ·intro w' hS;clear hS;go_simp;rfl
  refine Late.tb (i:=3) (v:=?_) ?_ HS.o ?_;rotate_left
  ·intro w' hS;clear hS;go_simp;rfl
  refine Late.tb (i:=4) (v:=?_) ?_ HS.o ?_;rotate_left
  ·intro w' hS;have p0:=hS.1;clear hS;go_simp;rfl
  refine Late.tb (i:=5) (v:=?_) ?_ HS.o ?_;rotate_left
  ·intro w' hS;clear hS;go_simp;rfl
  refine Late.tb (i:=6) (v:=?_) ?_ HS.o ?_;rotate_left
  ·intro w' hS;clear hS;go_simp;rfl
  refine Late.tb (i:=7) (v:=?_) ?_ HS.o ?_;rotate_left
  ·intro w' hS;clear hS;go_simp;rfl
  refine Late.tb (i:=8) (v:=?_) ?_ HS.o ?_;rotate_left
  ·intro w' hS;clear hS;go_simp;rfl
  refine Late.tb (i:=9) (v:=?_) ?_ HS.o ?_;rotate_left
  ·intro w' hS;have p0:=hS.2;clear hS;go_simp;rfl
  refine Late.tb (i:=10) (v:=?_) ?_ HS.o ?_;rotate_left
  ·intro w' hS;clear hS;go_simp;rfl
  refine Late.tb (i:=11) (v:=?_) ?_ HS.o ?_;rotate_left
  ·intro w' hS;clear hS;go_simp;rfl
  rw[show IntKind.i64.wrap ((a:Int)-(n:Int))=(a:Int)-n by rw[IntKind.wrap_i64];omega];have z0:=HAV.o.frozen;have r0:=HAV.o.row;have hlt:=HAV.o.lt;have q0:=r0 0 _ rfl;have q1:=r0 1 _ rfl;have q2:=r0 2 _ rfl;have q3:=r0 3 _ rfl;obtain⟨z0,z1,z2,z3⟩:=ff4 HAV.o;clear r0;refine Late.on (i:=12) fun K hK=>?_;go_simp;refine hK _ _ (fun h=>by cases h) ?_;clear hK K q0 q1 q2 q3 z0 z1 z2 z3 hlt;have HX:=zh (zaS (t:=39) rfl HAV.o (.bool false) (.int .i64 ((a:Int)-n)) (.string ⟨#[]⟩) (.slice none 0 0));have HY:=zh (zbP HV.o (show w.heap.size<=u by rw[HU.o];exact Nat.le_refl _) (.bool false) (.int .i64 ((a:Int)-n)) (.string ⟨#[]⟩) (.slice none 0 0));obtain⟨W5,hW5⟩:=Fld.nm (put4 V u (.bool false) (.int .i64 ((a:Int)-n)) (.string ⟨#[]⟩) (.slice none 0 0));rw[<-hW5] at HX HY;rw[show(((V.setCell ⟨u,0,none⟩ (.bool false)).setCell ⟨u,1,none⟩ (.int .i64 ((a:Int)-n))).setCell ⟨u,2,none⟩ (.string ⟨#[]⟩)).setCell ⟨u,3,none⟩ (.slice none 0 0)=W5 from hW5.symm];clear hW5;refine Late.on (i:=13) fun K hK=>?_;go_simp;refine hK _ _ (fun h=>by cases h) ?_;clear hK K;refine Late.done (by kernel_rfl) ?_ _;go_wp2_with fail;exact zcw rfl HX.o (VAt.flat _ _ _) HY.o rfl rfl
def zpW (tr:Int)(nl:Bool)(num:Int):Int:=if nl then tr else wrap64 (tr+num)
theorem AggAt.logic {O:Nat->Prop}{w:World}{b zb a n:Nat}{l:Bool}{tr:Int}(h:AggAt O w b zb (.logic a n l tr)):BoxN w b 107 [zbW a,zbW n,.bool l,.int .i64 tr]:=by
 obtain⟨-,-,t,cs,hb,rfl,rfl⟩:=h;exact hb
theorem AggAt.logic' {O:Nat->Prop}{w w':World}{b zb a n a' n':Nat}{l l':Bool}{tr tr':Int}(h:AggAt O w b zb (.logic a n l tr))(hs:w.heap.size<=w'.heap.size)(hb:BoxN w' b 107 [zbW a',zbW n',.bool l',.int .i64 tr']):AggAt O w' b zb (.logic a' n' l' tr'):=
 ⟨h.own,fun k hk=>Nat.lt_of_lt_of_le (h.lt k hk) hs,107,_,hb,rfl,rfl⟩
theorem znG {O:Nat->Prop}{w:World}{b zb a n:Nat}{l:Bool}{tr:Int}(h:AggAt O w b zb (.logic a n l tr))(ha:a<=2147483647)(hn:n<=2147483647)(nl:Bool)(num:Int)(c2 c3:Value) :
  Calls Tryz.prog 213 #[.pointer (some ⟨b,0,none⟩),.agg #[.bool nl,.int .i64 num,c2,c3]] w (zb6 O w b zb (.logic (a+1) (zaO n nl) l (zpW tr nl num))):=by
 have HH:=zh h;have HBX:=zh h.logic;clear h;obtain⟨W1,hW,a0,hBW⟩:=zao w 39 [.bool nl,.int .i64 num,c2,c3];have HW:=zh hW;have HB:=zh hBW;have HA:=zh a0;clear hW hBW a0
 go_in
 go_wp2_with fail;rw[show w.alloc (Obj.cells #[.bool nl,.int .i64 num,c2,c3] 39)=W1 from HW.o.symm];obtain⟨u,hu⟩:=Fld.nm (w.heap.size);rw[<-hu] at HA ⊢;have HU:=zh hu;clear hu HW;obtain⟨V,hV⟩:=Fld.nm (W1.drew);have HV:=zh (show Below w.heap.size w V by rw[hV];exact zaf HB.o);have HAV:=zh (show BoxN V u 39 [.bool nl,.int .i64 num,c2,c3] by rw[hV];exact HA.o);have HS:=zh (show RowAt V u [.bool nl,.int .i64 num,c2,c3] from HAV.o.row);refine Late.region (fun w'=>RowAt w' u [.bool nl,.int .i64 num,c2,c3]) (fun j=>decide (4<=j)) rfl ?_;rw[<-hV];clear hV;refine Late.tb (i:=0) (v:=?_) ?_ HS.o ?_;rotate_left
 ·intro w' hS;clear hS;go_simp;rfl
 refine Late.tb (i:=1) (v:=?_) ?_ HS.o ?_;rotate_left
 ·intro w' hS;clear hS;go_simp;rfl
 refine Late.tb (i:=2) (v:=?_) ?_ HS.o ?_;rotate_left
 ·intro w' hS;clear hS;go_simp;rfl
 refine Late.tb (i:=3) (v:=?_) ?_ HS.o ?_;rotate_left
 ·intro w' hS;have p0:=hS 0 _ rfl;have p1:=hS 1 _ rfl;have p2:=hS 2 _ rfl;have p3:=hS 3 _ rfl;clear hS;go_simp;rfl
 refine Late.on (i:=4) fun K hK=>?_;go_simp;refine(zbU (HBX.o.below HV.o HBX.o.lt) ha hn nl (.int .i64 num) c2 c3).mono ?_;rintro e w2 ⟨rfl,h1,h2⟩;have HG:=zh h1;have HB2:=zh h2;have HC:Hid (Chg (zas b zb) w w2):=zh ((Chg.below HV.o).trans (Chg.grown HG.o (.inl rfl)));have HA2:=zh (show BoxN w2 u 39 [.bool nl,.int .i64 num,c2,c3] from HAV.o.kept HG.o (by have h1:=HU.o;have h2:=HBX.o.lt;intro e;cases e;omega));clear h1 h2;refine hK _ _ (fun h=>by cases h) ?_;clear hK K;refine Late.on (i:=5) fun K hK=>?_;go_simp;refine hK _ _ (fun h=>by cases h) ?_;clear hK K;refine Late.done (by kernel_rfl) ?_ _;cases nl with
 | true=>
  go_wp2_with fail;go_end0;exact⟨rfl,HC.o,HH.o.logic' HC.o.size HB2.o⟩
 | false=>
  go_wp2_with fail;have HOX2:=HA2;obtain⟨V2,hV⟩:∃V,V=w2.drew:=⟨_,rfl⟩;have HV2:=zh (show Below w2.heap.size w2 V2 by rw[hV];exact zaf (Below.refl _ _));have HBX2:=zh (HB2.o.below HV2.o HB2.o.lt);have HS2:=zh (show V2.cell? ⟨b,3,none⟩=some (.int .i64 tr)/\V2.cell? ⟨u,1,none⟩=some (.int .i64 num) from⟨HBX2.o.row _ _ rfl,(HOX2.o.below HV2.o HOX2.o.lt).row _ _ rfl⟩);refine Late.region (fun w'=>w'.cell? ⟨b,3,none⟩=some (.int .i64 tr)/\w'.cell? ⟨u,1,none⟩=some (.int .i64 num)) (fun j=>decide (9<=j)) rfl ?_;rw[<-hV];clear hV;refine Late.tb (i:=0) (v:=?_) ?_ HS2.o ?_;rotate_left
  ·intro w' hS;clear hS;go_simp;rfl
  refine Late.tb (i:=1) (v:=?_) ?_ HS2.o ?_;rotate_left
  ·intro w' hS;clear hS;go_simp;rfl
  refine Late.tb (i:=2) (v:=?_) ?_ HS2.o ?_;rotate_left
  ·intro w' hS;clear hS;go_simp;rfl
  refine Late.tb (i:=3) (v:=?_) ?_ HS2.o ?_;rotate_left
  ·intro w' hS;have p0:=hS.1;clear hS;go_simp;rfl
  refine Late.tb (i:=4) (v:=?_) ?_ HS2.o ?_;rotate_left
  ·intro w' hS;clear hS;go_simp;rfl
  refine Late.tb (i:=5) (v:=?_) ?_ HS2.o ?_;rotate_left
  ·intro w' hS;have p0:=hS.2;clear hS;go_simp;rfl
  refine Late.tb (i:=6) (v:=?_) ?_ HS2.o ?_;rotate_left
  ·intro w' hS;clear hS;go_simp;rfl
  refine Late.tb (i:=7) (v:=?_) ?_ HS2.o ?_;rotate_left
  ·intro w' hS;clear hS;go_simp;rfl
  refine Late.tb (i:=8) (v:=?_) ?_ HS2.o ?_;rotate_left
  ·intro w' hS;clear hS;go_simp;rfl
  have z0:=HBX2.o.frozen 3;have p0:=HBX2.o.row 3 _ rfl;have hlt:=HBX2.o.lt;refine Late.on (i:=9) fun K hK=>?_;go_simp;refine hK _ _ (fun h=>by cases h) ?_;clear hK K z0 p0 hlt;refine Late.done (by kernel_rfl) ?_ _;have HF:Hid (∀x:Int,x=wrap64 (tr+num)->zb6 O w b zb (.logic (a+1) (zaO n false) l (zpW tr false num)) (.returned (.tuple #[])) (V2.setCell ⟨b,3,none⟩ (.int .i64 x))):=zh (by
   rintro x rfl;have hC:Chg (zas b zb) w (V2.setCell ⟨b,3,none⟩ (.int .i64 (wrap64 (tr+num)))):=HC.o.trans ((Chg.below HV2.o).trans (Chg.grown (zai _ _ _ _) (.inl rfl)));refine⟨rfl,hC,HH.o.logic' hC.size ?_⟩;exact HBX2.o.set 3 (.int .i64 (wrap64 (tr+num))))
  go_wp2_with fail;go_end0;exact HF.o _ (by first|rfl|(rw[IntKind.wrap_i64];unfold wrap64;rfl)|simp[IntKind.wrap_i64,wrap64])
def zeG (a n:Nat)(l:Bool)(tr:Int):Vl:=
 if l then(if 0<wrap64 ((a:Int)-n-tr) then .mk false 0 ⟨#[]⟩ [] else if 0<n then .mk true 0 ⟨#[]⟩ [] else .mk false 1 ⟨#[]⟩ [])
 else(if 0<tr then .mk false 1 ⟨#[]⟩ [] else if 0<n then .mk true 0 ⟨#[]⟩ [] else .mk false 0 ⟨#[]⟩ [])
theorem zeo {fn:Func}{i j:Nat}(hfn:fn.results=#[.cell i 39,.tmp j]){w V:World}{u:Nat}{v:Vl}{c0 c1 c2 c3 d0 d1 d2 d3:Value}(hbx:BoxN V u 39 [d0,d1,d2,d3])(hu:u=w.heap.size)(hB:Below w.heap.size w V)(hv:∀W,VAt (fun b=>w.heap.size<=b) W v [c0,c1,c2,c3])
  {tmps:Array Value} (ht:tmps.getD i undef=.pointer (some ⟨u,0,none⟩)) (hj:tmps.getD j undef=.int .i64 0):bodyPost Tryz.prog fn (zd9 w v 0) Exit.ret { tmps:=tmps,defers:=[] } (put4 V u c0 c1 c2 c3):=
 zcw hfn (zaS rfl hbx c0 c1 c2 c3) (hv _) (zbP hB (by omega) _ _ _ _) ht hj
theorem zmy {O:Nat->Prop}{w:World}{b zb a n:Nat}{l:Bool}{tr:Int}(h:AggAt O w b zb (.logic a n l tr))(ha:a<=2147483647)(hn:n<=2147483647):Calls Tryz.prog 214 #[.pointer (some ⟨b,0,none⟩)] w (zd9 w (zeG a n l tr) 0):=by
 have HBX:=zh h.logic;clear h;obtain⟨R,hR⟩:=Fld.nm (zeG a n l tr);rw[<-hR];have HR:=zh hR;clear hR;obtain⟨W1,hW,a0,hBW⟩:=zao w 39 [.bool false,.int .i64 0,.string ⟨#[]⟩,.slice none 0 0];have HW:=zh hW;have HB:=zh hBW;have HA:=zh a0;clear hW hBW a0
 go_in
 go_wp2_with fail;rw[show w.alloc (Obj.cells #[.bool false,.int .i64 0,.string ⟨#[]⟩,.slice none 0 0] 39)=W1 from HW.o.symm];obtain⟨u,hu⟩:=Fld.nm (w.heap.size);rw[<-hu] at HA ⊢;have HU:=zh hu;clear hu HW;obtain⟨V,hV⟩:=Fld.nm (W1.drew);have HV:=zh (show Below w.heap.size w V by rw[hV];exact zaf HB.o);have HAV:=zh (show BoxN V u 39 [.bool false,.int .i64 0,.string ⟨#[]⟩,.slice none 0 0] by rw[hV];exact HA.o);have HS:=zh (show RowAt V b [zbW a,zbW n,.bool l,.int .i64 tr] from(HBX.o.below HV.o HBX.o.lt).row);refine Late.region (fun w'=>RowAt w' b [zbW a,zbW n,.bool l,.int .i64 tr]) (fun j=>false) rfl ?_;rw[<-hV];clear hV;refine Late.tb (i:=0) (v:=?_) ?_ HS.o ?_;rotate_left
 ·intro w' hS;clear hS;go_simp;rfl
 refine Late.tb (i:=1) (v:=?_) ?_ HS.o ?_;rotate_left
 ·intro w' hS;clear hS;go_simp;rfl
 refine Late.tb (i:=2) (v:=?_) ?_ HS.o ?_;rotate_left
 ·intro w' hS;clear hS;go_simp;rfl
 refine Late.tb (i:=3) (v:=?_) ?_ HS.o ?_;rotate_left
 ·intro w' hS;clear hS;go_simp;rfl
 refine Late.tb (i:=4) (v:=?_) ?_ HS.o ?_;rotate_left
 ·intro w' hS;have p0:=hS 0 _ rfl;clear hS;go_simp;rfl
 refine Late.tb (i:=5) (v:=?_) ?_ HS.o ?_;rotate_left
 ·intro w' hS;clear hS;go_simp;rfl
 refine Late.tb (i:=6) (v:=?_) ?_ HS.o ?_;rotate_left
 ·intro w' hS;clear hS;go_simp;rfl
 refine Late.tb (i:=7) (v:=?_) ?_ HS.o ?_;rotate_left
 ·intro w' hS;clear hS;go_simp;rfl
 refine Late.tb (i:=8) (v:=?_) ?_ HS.o ?_;rotate_left
 ·intro w' hS;clear hS;go_simp;rfl
 refine Late.tb (i:=9) (v:=?_) ?_ HS.o ?_;rotate_left
 ·intro w' hS;have p1:=hS 1 _ rfl;clear hS;go_simp;rfl
 refine Late.tb (i:=10) (v:=?_) ?_ HS.o ?_;rotate_left
 ·intro w' hS;clear hS;go_simp;rfl
 refine Late.tb (i:=11) (v:=?_) ?_ HS.o ?_;rotate_left
 ·intro w' hS;clear hS;go_simp;rfl
 refine Late.tb (i:=12) (v:=?_) ?_ HS.o ?_;rotate_left
 ·intro w' hS;clear hS;go_simp;rfl
 refine Late.tb (i:=13) (v:=?_) ?_ HS.o ?_;rotate_left
 ·intro w' hS;clear hS;go_simp;rfl
 refine Late.tb (i:=14) (v:=?_) ?_ HS.o ?_;rotate_left
 ·intro w' hS;have p3:=hS 3 _ rfl;clear hS;go_simp;rfl
 refine Late.tb (i:=15) (v:=?_) ?_ HS.o ?_;rotate_left
 ·intro w' hS;clear hS;go_simp;rfl
 refine Late.tb (i:=16) (v:=?_) ?_ HS.o ?_;rotate_left
 ·intro w' hS;clear hS;go_simp;rfl
 refine Late.done (by kernel_rfl) ?_ _;have hwan:IntKind.i64.wrap ((a:Int)-(n:Int))=(a:Int)-n:=by rw[IntKind.wrap_i64];omega
 rw[hwan];obtain⟨F,hF⟩:=Fld.nm (wrap64 ((a:Int)-n-tr));rw[show IntKind.i64.wrap ((a:Int)-(n:Int)-tr)=F from by rw[hF,IntKind.wrap_i64];unfold wrap64;first|rfl|omega];have HFF:=zh hF;clear hF hwan;have p0:=HS.o 0 _ rfl;have p1:=HS.o 1 _ rfl;have p2:=HS.o 2 _ rfl;have p3:=HS.o 3 _ rfl;obtain⟨q0,q1,q2,q3⟩:=rr4 HAV.o.row;obtain⟨z0,z1,z2,z3⟩:=ff4 HAV.o;have hlt:=HAV.o.lt;cases l with
 | true=>
  by_cases hf:0<F
  ·have HE:=zh (show R=.mk false 0 ⟨#[]⟩ [] by rw[HR.o];unfold zeG;rw[<-HFF.o,if_pos rfl,if_pos hf]);have hb1:decide (F > 0)=true:=by simpa using hf
   clear HFF;go_wp2_with fail;rw[HE.o];exact zeo rfl HAV.o HU.o HV.o (fun W=>VAt.flat _ _ _) rfl rfl
  ·have hb1:decide (F > 0)=false:=by simpa using hf
   by_cases hn0:0<n
   ·have HE:=zh (show R=.mk true 0 ⟨#[]⟩ [] by rw[HR.o];unfold zeG;rw[<-HFF.o,if_pos rfl,if_neg hf,if_pos hn0]);have hb2:decide ((n:Int) > 0)=true:=by simpa using hn0
    clear HFF;go_wp2_with fail;rw[HE.o];exact zeo rfl HAV.o HU.o HV.o (fun W=>VAt.flat _ _ _) rfl rfl
   ·have HE:=zh (show R=.mk false 1 ⟨#[]⟩ [] by rw[HR.o];unfold zeG;rw[<-HFF.o,if_pos rfl,if_neg hf,if_neg hn0]);have hb2:decide ((n:Int) > 0)=false:=by simpa using hn0
    clear HFF;go_wp2_with fail;rw[HE.o];exact zeo rfl HAV.o HU.o HV.o (fun W=>VAt.flat _ _ _) rfl rfl
 | false=>
  by_cases hf:0<tr
  ·have HE:=zh (show R=.mk false 1 ⟨#[]⟩ [] by rw[HR.o];unfold zeG;rw[if_neg (by decide),if_pos hf]);have hb1:decide (tr > 0)=true:=by simpa using hf
   clear HFF;go_wp2_with fail;rw[HE.o];exact zeo rfl HAV.o HU.o HV.o (fun W=>VAt.flat _ _ _) rfl rfl
  ·have hb1:decide (tr > 0)=false:=by simpa using hf
   by_cases hn0:0<n
   ·have HE:=zh (show R=.mk true 0 ⟨#[]⟩ [] by rw[HR.o];unfold zeG;rw[if_neg (by decide),if_neg hf,if_pos hn0]);have hb2:decide ((n:Int) > 0)=true:=by simpa using hn0
    clear HFF;go_wp2_with fail;rw[HE.o];exact zeo rfl HAV.o HU.o HV.o (fun W=>VAt.flat _ _ _) rfl rfl
   ·have HE:=zh (show R=.mk false 0 ⟨#[]⟩ [] by rw[HR.o];unfold zeG;rw[if_neg (by decide),if_neg hf,if_neg hn0]);have hb2:decide ((n:Int) > 0)=false:=by simpa using hn0
    clear HFF;go_wp2_with fail;rw[HE.o];exact zeo rfl HAV.o HU.o HV.o (fun W=>VAt.flat _ _ _) rfl rfl
def zqf (a n:Nat)(k:Int)(zb:Nat)(nm:ByteArray)(nl:Bool)(wd id ix:Int)(p:Option Addr)(m c:Nat):List Value:=[zbW a,zbW n,.string nm,.bool nl,.int .i64 k,.int .i64 wd,.int .i64 id,.int .i64 ix,.slice p m c,.pointer (some ⟨zb,0,none⟩)]
theorem AggAt.wholes {O:Nat->Prop}{w:World}{b zb a n:Nat}{k z:Int}(h:AggAt O w b zb (.wholes a n k z)):∃nm nl wd id ix p m c,BoxN w b 98 (zqf a n k zb nm nl wd id ix p m c)/\IntAt (fun k=>¬O k) w zb z/\zb≠b:=by
 obtain⟨-,-,t,cs,hb,rfl,⟨nm,nl,wd,id,ix,p,m,c,rfl⟩,h3,h4⟩:=h;exact⟨nm,nl,wd,id,ix,p,m,c,hb,h3,h4⟩
theorem AggAt.wholes' {O:Nat->Prop}{w w':World}{b zb a n a' n':Nat}{k z z':Int}{nm:ByteArray}{nl:Bool}{wd id ix:Int}{p:Option Addr}{m c:Nat}(h:AggAt O w b zb (.wholes a n k z))(hs:w.heap.size<=w'.heap.size)(hb:BoxN w' b 98 (zqf a' n' k zb nm nl wd id ix p m c))(hi:IntAt (fun k=>¬O k) w' zb z'):AggAt O w' b zb (.wholes a' n' k z'):=by
 obtain⟨nm',nl',wd',id',ix',p',m',c',-,-,hne⟩:=h.wholes;exact⟨h.own,fun k hk=>Nat.lt_of_lt_of_le (h.lt k hk) hs,98,_,hb,rfl,⟨nm,nl,wd,id,ix,p,m,c,rfl⟩,hi,hne⟩
theorem zcN {y:Int}(h:y.natAbs<=18446744073709551616):zaR y:=⟨3,by decide,Nat.lt_of_le_of_lt h (by decide)⟩
def zlC (k num:Int):Int:=if k=10 then num % 18446744073709551616 else num
def zhE (z k:Int)(nl:Bool)(num:Int):Int:=if nl then z else z+zlC k num
theorem zmz {O:Nat->Prop}{w:World}{b zb a n:Nat}{k z:Int}(h:AggAt O w b zb (.wholes a n k z))(ha:a<=2147483647)(hn:n<=2147483647)(hz:zaR z)(nl:Bool)(num:Int)(hnum:zah num)(c2 c3:Value) :
  Calls Tryz.prog 172 #[.pointer (some ⟨b,0,none⟩),.agg #[.bool nl,.int .i64 num,c2,c3]] w (zb6 O w b zb (.wholes (a+1) (zaO n nl) k (zhE z k nl num))):=by
 obtain⟨nm,fl,wd,id,ix,p,m,c,hb,hi,hne⟩:=h.wholes;have HH:=zh h;have HBX:=zh hb;have HI:=zh hi;have HNE:=zh hne;have HZ:=zh hz;have HNUM:=zh hnum;have hnu1:-9223372036854775808<=num:=hnum.1;have hnu2:num<=9223372036854775807:=hnum.2;clear h hb hi hne hz hnum;obtain⟨W1,hW,a0,hBW⟩:=zao w 39 [.bool nl,.int .i64 num,c2,c3];have HW:=zh hW;have HB:=zh hBW;have HA:=zh a0;clear hW hBW a0
 go_in
 go_wp2_with fail;rw[show w.alloc (Obj.cells #[.bool nl,.int .i64 num,c2,c3] 39)=W1 from HW.o.symm];obtain⟨u,hu⟩:=Fld.nm (w.heap.size);rw[<-hu] at HA ⊢;have HU:=zh hu;clear hu HW;obtain⟨V,hV⟩:=Fld.nm (W1.drew);have HV:=zh (show Below w.heap.size w V by rw[hV];exact zaf HB.o);have HAV:=zh (show BoxN V u 39 [.bool nl,.int .i64 num,c2,c3] by rw[hV];exact HA.o);have HS:=zh (show RowAt V u [.bool nl,.int .i64 num,c2,c3] from HAV.o.row);refine Late.region (fun w'=>RowAt w' u [.bool nl,.int .i64 num,c2,c3]) (fun j=>decide (4<=j)) rfl ?_;rw[<-hV];clear hV;refine Late.tb (i:=0) (v:=?_) ?_ HS.o ?_;rotate_left
 ·intro w' hS;clear hS;go_simp;rfl
 refine Late.tb (i:=1) (v:=?_) ?_ HS.o ?_;rotate_left
 ·intro w' hS;clear hS;go_simp;rfl
 refine Late.tb (i:=2) (v:=?_) ?_ HS.o ?_;rotate_left
 ·intro w' hS;clear hS;go_simp;rfl
 refine Late.tb (i:=3) (v:=?_) ?_ HS.o ?_;rotate_left
 ·intro w' hS;have p0:=hS 0 _ rfl;have p1:=hS 1 _ rfl;have p2:=hS 2 _ rfl;have p3:=hS 3 _ rfl;clear hS;go_simp;rfl
 refine Late.on (i:=4) fun K hK=>?_;go_simp;refine(zbU (HBX.o.below HV.o HBX.o.lt) ha hn nl (.int .i64 num) c2 c3).mono ?_;rintro e w2 ⟨rfl,h1,h2⟩;have HG:=zh h1;have HB2:=zh h2;have HC:Hid (Chg (zas b zb) w w2):=zh ((Chg.below HV.o).trans (Chg.grown HG.o (.inl rfl)));have HA2:=zh (show BoxN w2 u 39 [.bool nl,.int .i64 num,c2,c3] from HAV.o.kept HG.o (by have h1:=HU.o;have h2:=HBX.o.lt;intro e;cases e;omega));clear h1 h2;refine hK _ _ (fun h=>by cases h) ?_;clear hK K;refine Late.done (by kernel_rfl) ?_ _;have HI2:=zh (show IntAt (fun k=>¬O k) w2 zb z from(HI.o.below (w':=V) (Below.mono HV.o (Nat.le_refl _))).keep (HG.o.block zb (Nat.lt_of_lt_of_le HI.o.lt HV.o.size) (fun e=>HNE.o (by cases e;rfl))) (fun k hk hl=>⟨HG.o.block k hl (fun e=>by cases e;exact hk HH.o.own.1),hk⟩));cases nl with
 | true=>
  go_wp2_with fail;go_end0;exact⟨rfl,HC.o,HH.o.wholes' HC.o.size HB2.o HI2.o⟩
 | false=>
  have q1:=HA2.o.row 1 _ rfl;have HN:=zh (zhC (w:=w2) HNUM.o);go_wp2_with fail;refine HN.o.mono ?_;rintro e w3 ⟨hb3,yb,hyb,rfl,i3⟩;have HB3:=zh hb3;have HYB:=zh hyb;have HY3:=zh i3;have HX3:=zh (HB2.o.below hb3 HB2.o.lt);have HI3:=zh (HI2.o.below hb3);have HA3:=zh (HA2.o.below hb3 HA2.o.lt);have HC3:=zh (HC.o.trans (Chg.below hb3));clear hb3 hyb i3 q1;have p4:w3.cell? ⟨b,4,none⟩=some (.int .i64 k):=HX3.o.row 4 _ rfl;have p9:w3.cell? ⟨b,9,none⟩=some (.pointer (some ⟨zb,0,none⟩)):=HX3.o.row 9 _ rfl;have q1:=HA3.o.row 1 _ rfl;by_cases hk:k=10
  ·have hkb:(k == 10)=true:=by simpa using hk
   obtain⟨x,hx⟩:∃x:Nat,(x:Int)=num % 18446744073709551616:=⟨(num % 18446744073709551616).toNat,by omega⟩;have hx64:x<18446744073709551616:=by omega
   have HXE:=zh hx;have HE:Hid (zhE z k false num=z+(x:Int)):=zh (by unfold zhE zlC;rw[if_neg (by decide),if_pos hk,hx]);have hwu:IntKind.u64.wrap num=(x:Int):=by rw[zen];omega
   have HWU:=zh hwu;obtain⟨yl,yq,yc,ybx,-⟩:=HY3.o;have HYX:=zh ybx;have HSY:=zh (zcN (y:=(x:Int)) (by omega));clear hk hx hwu ybx;go_wp2_with fail;rw[HWU.o];refine(zb0 HYX.o hx64).mono ?_;rintro e w4 ⟨rfl,g4,i4⟩;have HBL:=zh (show Below w2.heap.size w2 w4 from HB3.o.grown g4 HB3.o.size (fun k e=>by cases e;exact HYB.o));have HX4:=zh (HB2.o.below HBL.o HB2.o.lt);have HI4:=zh (HI2.o.below HBL.o);have HY4:=zh (i4.mono (T:=fun _=>True) (fun _ _=>trivial));have HC4:=zh (HC.o.trans (Chg.below HBL.o));clear g4 i4 p4 p9 q1 HX3 HI3 HA3 HC3 HY3 hkb;have p9:w4.cell? ⟨b,9,none⟩=some (.pointer (some ⟨zb,0,none⟩)):=HX4.o.row 9 _ rfl;go_wp2_with fail;obtain⟨V5,hV⟩:∃V,V=w4.drew:=⟨_,rfl⟩;have HV5:=zh (show Below w4.heap.size w4 V5 by rw[hV];exact zaf (Below.refl _ _));have HX5:=zh (HX4.o.below HV5.o HX4.o.lt);have HI5:=zh (HI4.o.below HV5.o);have HY5:=zh (HY4.o.below HV5.o);have HS5:=zh (show V5.cell? ⟨b,9,none⟩=some (.pointer (some ⟨zb,0,none⟩)) from HX5.o.row 9 _ rfl);refine Late.region (fun w'=>w'.cell? ⟨b,9,none⟩=some (.pointer (some ⟨zb,0,none⟩))) (fun j=>decide (9<=j)) rfl ?_;rw[<-hV];clear hV p9;refine Late.tb (i:=0) (v:=?_) ?_ HS5.o ?_;rotate_left
   ·intro w' hS;clear hS;go_simp;rfl
   refine Late.tb (i:=1) (v:=?_) ?_ HS5.o ?_;rotate_left
   ·intro w' hS;clear hS;go_simp;rfl
   refine Late.tb (i:=2) (v:=?_) ?_ HS5.o ?_;rotate_left
   ·intro w' hS;clear hS;go_simp;rfl
   refine Late.tb (i:=3) (v:=?_) ?_ HS5.o ?_;rotate_left
   ·intro w' hS;have p0:=hS;clear hS;go_simp;rfl
   refine Late.tb (i:=4) (v:=?_) ?_ HS5.o ?_;rotate_left
   ·intro w' hS;clear hS;go_simp;rfl
   refine Late.tb (i:=5) (v:=?_) ?_ HS5.o ?_;rotate_left
   ·intro w' hS;clear hS;go_simp;rfl
   refine Late.tb (i:=6) (v:=?_) ?_ HS5.o ?_;rotate_left
   ·intro w' hS;clear hS;go_simp;rfl
   refine Late.tb (i:=7) (v:=?_) ?_ HS5.o ?_;rotate_left
   ·intro w' hS;have p0:=hS;clear hS;go_simp;rfl
   refine Late.tb (i:=8) (v:=?_) ?_ HS5.o ?_;rotate_left
   ·intro w' hS;clear hS;go_simp;rfl
   obtain⟨zl,zq,zc,zbx,-⟩:=HI5.o;have HZX:=zh zbx;clear zbx;refine Late.on (i:=9) fun K hK=>?_;go_simp;refine(zbu HZX.o HI5.o HZ.o HY5.o HSY.o).mono ?_;rintro e w6 ⟨rfl,g6,i6⟩;have HC6:=zh (HC4.o.trans ((Chg.below HV5.o).trans (Chg.grown (C:=zas b zb) g6 (.inr rfl))));have HX6:=zh (HX5.o.kept g6 (fun e=>HNE.o (by cases e;rfl)));have HI6:=zh (show IntAt (fun k=>¬O k) w6 zb (z+(x:Int)) from i6.mono (fun k hk ho=>by
    have h1:=HH.o.lt k ho;have h2:=(HC4.o.trans (Chg.below HV5.o)).size;omega))
   clear g6 i6;refine hK _ _ (fun h=>by cases h) ?_;clear hK K;refine Late.done (by kernel_rfl) ?_ _;go_wp2_with fail;go_end0;rw[HE.o];exact⟨rfl,HC6.o,HH.o.wholes' HC6.o.size HX6.o HI6.o⟩
  ·have hkb:(k == 10)=false:=by simpa using hk
   have HE:Hid (zhE z k false num=z+num):=zh (by unfold zhE zlC;rw[if_neg (by decide),if_neg hk]);have HSY:=zh (zcN (y:=num) (by omega));clear hk;go_wp2_with fail;obtain⟨V5,hV⟩:∃V,V=w3.drew:=⟨_,rfl⟩;have HV5:=zh (show Below w3.heap.size w3 V5 by rw[hV];exact zaf (Below.refl _ _));have HX5:=zh (HX3.o.below HV5.o HX3.o.lt);have HI5:=zh (HI3.o.below HV5.o);have HY5:=zh (HY3.o.below HV5.o);have HS5:=zh (show V5.cell? ⟨b,9,none⟩=some (.pointer (some ⟨zb,0,none⟩)) from HX5.o.row 9 _ rfl);refine Late.region (fun w'=>w'.cell? ⟨b,9,none⟩=some (.pointer (some ⟨zb,0,none⟩))) (fun j=>decide (9<=j)) rfl ?_;rw[<-hV];clear hV p9;refine Late.tb (i:=0) (v:=?_) ?_ HS5.o ?_;rotate_left
   ·intro w' hS;clear hS;go_simp;rfl
   refine Late.tb (i:=1) (v:=?_) ?_ HS5.o ?_;rotate_left
   ·intro w' hS;clear hS;go_simp;rfl
   refine Late.tb (i:=2) (v:=?_) ?_ HS5.o ?_;rotate_left
   ·intro w' hS;clear hS;go_simp;rfl
   refine Late.tb (i:=3) (v:=?_) ?_ HS5.o ?_;rotate_left
   ·intro w' hS;have p0:=hS;clear hS;go_simp;rfl
   refine Late.tb (i:=4) (v:=?_) ?_ HS5.o ?_;rotate_left
   ·intro w' hS;clear hS;go_simp;rfl
   refine Late.tb (i:=5) (v:=?_) ?_ HS5.o ?_;rotate_left
   ·intro w' hS;clear hS;go_simp;rfl
   refine Late.tb (i:=6) (v:=?_) ?_ HS5.o ?_;rotate_left
   ·intro w' hS;clear hS;go_simp;rfl
   refine Late.tb (i:=7) (v:=?_) ?_ HS5.o ?_;rotate_left
   ·intro w' hS;have p0:=hS;clear hS;go_simp;rfl
   refine Late.tb (i:=8) (v:=?_) ?_ HS5.o ?_;rotate_left
   ·intro w' hS;clear hS;go_simp;rfl
   obtain⟨zl,zq,zc,zbx,-⟩:=HI5.o;have HZX:=zh zbx;clear zbx;refine Late.on (i:=9) fun K hK=>?_;go_simp;refine(zbu HZX.o HI5.o HZ.o HY5.o HSY.o).mono ?_;rintro e w6 ⟨rfl,g6,i6⟩;have HC6:=zh (HC3.o.trans ((Chg.below HV5.o).trans (Chg.grown (C:=zas b zb) g6 (.inr rfl))));have HX6:=zh (HX5.o.kept g6 (fun e=>HNE.o (by cases e;rfl)));have HI6:=zh (show IntAt (fun k=>¬O k) w6 zb (z+num) from i6.mono (fun k hk ho=>by
    have h1:=HH.o.lt k ho;have h2:=(HC3.o.trans (Chg.below HV5.o)).size;omega))
   clear g6 i6;refine hK _ _ (fun h=>by cases h) ?_;clear hK K;refine Late.done (by kernel_rfl) ?_ _;go_wp2_with fail;go_end0;rw[HE.o];exact⟨rfl,HC6.o,HH.o.wholes' HC6.o.size HX6.o HI6.o⟩
def zdq (a n:Nat)(k z:Int):Vl × Int:=
 if a=n then(.mk true 0 ⟨#[]⟩ [],0)
 else if k=10/\0<=z/\z<18446744073709551616 then(.mk false (wrap64 z) ⟨#[]⟩ [],0)
 else if k=6/\-9223372036854775808<=z/\z<=9223372036854775807 then(.mk false z ⟨#[]⟩ [],0)
 else(.mk false 0 ⟨#[]⟩ [],170)
theorem zbr {fn:Func}{i j:Nat}(hfn:fn.results=#[.cell i 39,.tmp j]){w V:World}{u:Nat}{v:Vl}{err:Int}{c0 c1 c2 c3 d0 d1 d2 d3:Value}(hbx:BoxN V u 39 [d0,d1,d2,d3])(hu:u=w.heap.size)(hB:Below w.heap.size w V)(hv:∀W,VAt (fun b=>w.heap.size<=b) W v [c0,c1,c2,c3])
  {tmps:Array Value} (ht:tmps.getD i undef=.pointer (some ⟨u,0,none⟩)) (hj:tmps.getD j undef=.int .i64 err):bodyPost Tryz.prog fn (zd9 w v err) Exit.ret { tmps:=tmps,defers:=[] } (put4 V u c0 c1 c2 c3):=
 zcw hfn (zaS rfl hbx c0 c1 c2 c3) (hv _) (zbP hB (by omega) _ _ _ _) ht hj
theorem zlD {O:Nat->Prop}{w:World}{b zb a n:Nat}{k z:Int}(h:AggAt O w b zb (.wholes a n k z))(hz:zaR z):Calls Tryz.prog 173 #[.pointer (some ⟨b,0,none⟩)] w (zd9 w (zdq a n k z).1 (zdq a n k z).2):=by
 obtain⟨nm,fl,wd,id,ix,p,m,c,hb,hi,hzb⟩:=h.wholes;have HBX:=zh hb;have HI:=zh hi;have HZ:=zh hz;clear h hb hi hzb hz;obtain⟨R,hR⟩:=Fld.nm (zdq a n k z);rw[<-hR];have HR:=zh hR;clear hR;obtain⟨W1,hW,a0,hBW⟩:=zao w 39 [.bool false,.int .i64 0,.string ⟨#[]⟩,.slice none 0 0];have HW:=zh hW;have HB:=zh hBW;have HA:=zh a0;clear hW hBW a0
 go_in
 go_wp2_with fail;rw[show w.alloc (Obj.cells #[.bool false,.int .i64 0,.string ⟨#[]⟩,.slice none 0 0] 39)=W1 from HW.o.symm];obtain⟨u,hu⟩:=Fld.nm (w.heap.size);rw[<-hu] at HA ⊢;have HU:=zh hu;clear hu HW;obtain⟨V,hV⟩:=Fld.nm (W1.drew);have HV:=zh (show Below w.heap.size w V by rw[hV];exact zaf HB.o);have HAV:=zh (show BoxN V u 39 [.bool false,.int .i64 0,.string ⟨#[]⟩,.slice none 0 0] by rw[hV];exact HA.o);have HXV:=zh (HBX.o.below HV.o HBX.o.lt);have HIV:=zh (HI.o.below (w':=V) (Below.mono HV.o (Nat.le_refl _)));have HS:=zh (show V.cell? ⟨b,0,none⟩=some (zbW a)/\V.cell? ⟨b,1,none⟩=some (zbW n) from⟨HXV.o.row 0 _ rfl,HXV.o.row 1 _ rfl⟩);refine Late.region (fun w'=>w'.cell? ⟨b,0,none⟩=some (zbW a)/\w'.cell? ⟨b,1,none⟩=some (zbW n)) (fun j=>false) rfl ?_;rw[<-hV];clear hV;refine Late.tb (i:=0) (v:=?_) ?_ HS.o ?_;rotate_left
 ·intro w' hS;clear hS;go_simp;rfl
 refine Late.tb (i:=1) (v:=?_) ?_ HS.o ?_;rotate_left
 ·intro w' hS;clear hS;go_simp;rfl
 refine Late.tb (i:=2) (v:=?_) ?_ HS.o ?_;rotate_left
 ·intro w' hS;clear hS;go_simp;rfl
 refine Late.tb (i:=3) (v:=?_) ?_ HS.o ?_;rotate_left
 ·intro w' hS;clear hS;go_simp;rfl
 refine Late.tb (i:=4) (v:=?_) ?_ HS.o ?_;rotate_left
 ·intro w' hS;have p0:=hS.1;clear hS;go_simp;rfl
 refine Late.tb (i:=5) (v:=?_) ?_ HS.o ?_;rotate_left
 ·intro w' hS;clear hS;go_simp;rfl
 refine Late.tb (i:=6) (v:=?_) ?_ HS.o ?_;rotate_left
 ·intro w' hS;clear hS;go_simp;rfl
 refine Late.tb (i:=7) (v:=?_) ?_ HS.o ?_;rotate_left
 ·intro w' hS;clear hS;go_simp;rfl
 refine Late.tb (i:=8) (v:=?_) ?_ HS.o ?_;rotate_left
 ·intro w' hS;clear hS;go_simp;rfl
 refine Late.tb (i:=9) (v:=?_) ?_ HS.o ?_;rotate_left
 ·intro w' hS;have p1:=hS.2;clear hS;go_simp;rfl
 refine Late.tb (i:=10) (v:=?_) ?_ HS.o ?_;rotate_left
 ·intro w' hS;clear hS;go_simp;rfl
 refine Late.tb (i:=11) (v:=?_) ?_ HS.o ?_;rotate_left
 ·intro w' hS;clear hS;go_simp;rfl
 refine Late.done (by kernel_rfl) ?_ _;go_simp;have p4:V.cell? ⟨b,4,none⟩=some (.int .i64 k):=HXV.o.row 4 _ rfl;have p9:V.cell? ⟨b,9,none⟩=some (.pointer (some ⟨zb,0,none⟩)):=HXV.o.row 9 _ rfl;obtain⟨q0,q1,q2,q3⟩:=rr4 HAV.o.row;obtain⟨z0,z1,z2,z3⟩:=ff4 HAV.o;have hlt:=HAV.o.lt;by_cases han:a=n
 ·have HE:=zh (show R=(.mk true 0 ⟨#[]⟩ [],0) by rw[HR.o];unfold zdq;rw[if_pos han]);have hb1:((a:Int) == (n:Int))=true:=by simp;omega
  have hb2:(a == n)=true:=by simpa using han
  clear han;go_wp2_with fail;rw[HE.o];exact zbr rfl HAV.o HU.o HV.o (fun W=>VAt.flat _ _ _) rfl rfl
 have hb1:((a:Int) == (n:Int))=false:=by simp;omega
 have hb2:(a == n)=false:=by simpa using han
 by_cases hk:k=10
 ·have hk1:(k == 10)=true:=by simpa using hk
  have hk2:(k == 6)=false:=by rw[hk];rfl
  have HIS:=zh (zoL HIV.o HZ.o);have HU64:=zh (zeD HIV.o HZ.o);by_cases hu:0<=z/\z<18446744073709551616
  ·have HE:=zh (show R=(.mk false (wrap64 z) ⟨#[]⟩ [],0) by rw[HR.o];unfold zdq;rw[if_neg han,if_pos ⟨hk,hu⟩]);rw[show decide (0<=z/\z<18446744073709551616)=true by simpa using hu] at HIS;rw[show((z.natAbs % 18446744073709551616:Nat):Int)=z by omega] at HU64;clear han hk hu;go_wp2_with fail;refine HIS.o.mono ?_;rintro e w2 ⟨rfl,rfl⟩;go_wp2_with fail;refine HU64.o.mono ?_;rintro e w2 ⟨rfl,rfl⟩;go_wp2_with fail;rw[HE.o];exact zbr rfl HAV.o HU.o HV.o (fun W=>VAt.flat _ _ _) rfl rfl
  ·have HE:=zh (show R=(.mk false 0 ⟨#[]⟩ [],170) by rw[HR.o];unfold zdq;rw[if_neg han,if_neg (fun h=>hu h.2),if_neg (by omega)]);rw[show decide (0<=z/\z<18446744073709551616)=false by simpa using hu] at HIS;clear han hk hu;go_wp2_with fail;refine HIS.o.mono ?_;rintro e w2 ⟨rfl,rfl⟩;go_wp2_with fail;rw[HE.o];exact zbr rfl HAV.o HU.o HV.o (fun W=>VAt.flat _ _ _) rfl rfl
 have hk1:(k == 10)=false:=by simpa using hk
 by_cases hk6:k=6
 ·have hk2:(k == 6)=true:=by simpa using hk6
  have HIS:=zh (zoM HIV.o HZ.o);by_cases hu:-9223372036854775808<=z/\z<=9223372036854775807
  ·have HE:=zh (show R=(.mk false z ⟨#[]⟩ [],0) by rw[HR.o];unfold zdq;rw[if_neg han,if_neg (fun h=>hk h.1),if_pos ⟨hk6,hu⟩]);have HI64:=zh (zmw HIV.o HZ.o hu);rw[show decide (-9223372036854775808<=z/\z<=9223372036854775807)=true by simpa using hu] at HIS;clear han hk hu hk6;go_wp2_with fail;refine HIS.o.mono ?_;rintro e w2 ⟨rfl,rfl⟩;go_wp2_with fail;refine HI64.o.mono ?_;rintro e w2 ⟨rfl,rfl⟩;go_wp2_with fail;rw[HE.o];exact zbr rfl HAV.o HU.o HV.o (fun W=>VAt.flat _ _ _) rfl rfl
  ·have HE:=zh (show R=(.mk false 0 ⟨#[]⟩ [],170) by rw[HR.o];unfold zdq;rw[if_neg han,if_neg (fun h=>hk h.1),if_neg (fun h=>hu h.2)]);rw[show decide (-9223372036854775808<=z/\z<=9223372036854775807)=false by simpa using hu] at HIS;clear han hk hu hk6;go_wp2_with fail;refine HIS.o.mono ?_;rintro e w2 ⟨rfl,rfl⟩;go_wp2_with fail;rw[HE.o];exact zbr rfl HAV.o HU.o HV.o (fun W=>VAt.flat _ _ _) rfl rfl
 ·have hk2:(k == 6)=false:=by simpa using hk6
  have HE:=zh (show R=(.mk false 0 ⟨#[]⟩ [],170) by rw[HR.o];unfold zdq;rw[if_neg han,if_neg (fun h=>hk h.1),if_neg (fun h=>hk6 h.1)]);clear han hk hk6;go_wp2_with fail;rw[HE.o];exact zbr rfl HAV.o HU.o HV.o (fun W=>VAt.flat _ _ _) rfl rfl
def zea (a n zb:Nat)(ab be no so:Bool):List Value:=[zbW a,zbW n,.pointer (some ⟨zb,0,none⟩),.bool ab,.bool be,.bool no,.bool so]
theorem AggAt.floats {O:Nat->Prop}{w:World}{b zb a n:Nat}{z:Int}{ab be no so:Bool}(h:AggAt O w b zb (.floats a n z ab be no so)):BoxN w b 95 (zea a n zb ab be no so)/\IntAt (fun k=>¬O k) w zb z/\zb≠b:=by
 obtain⟨-,-,t,cs,hb,rfl,rfl,h3,h4⟩:=h;exact⟨hb,h3,h4⟩
theorem AggAt.floats' {O:Nat->Prop}{w w':World}{b zb a n a' n':Nat}{z z':Int}{ab be no so ab' be' no' so':Bool}(h:AggAt O w b zb (.floats a n z ab be no so))(hs:w.heap.size<=w'.heap.size)(hb:BoxN w' b 95 (zea a' n' zb ab' be' no' so'))(hi:IntAt (fun k=>¬O k) w' zb z'):AggAt O w' b zb (.floats a' n' z' ab' be' no' so'):=
 ⟨h.own,fun k hk=>Nat.lt_of_lt_of_le (h.lt k hk) hs,95,_,hb,rfl,rfl,hi,h.floats.2.2⟩
def zd0 (z:Int)(ab be no so:Bool):Int:=
 if no || (ab && be) then 9221120237041090560 else if ab then 9218868437227405312 else if be then -4503599627370496
 else if z=0/\so=false then -9223372036854775808 else if z<0 then bits .or .i64 (zhD z.natAbs) (-9223372036854775808) else zhD z.natAbs
def zgg (a n:Nat)(z:Int)(ab be no so:Bool):Vl:=if a=n then .mk true 0 ⟨#[]⟩ [] else .mk false (zd0 z ab be no so) ⟨#[]⟩ []
theorem zdf {z:Int}(h:zaR z):zaR (-z):=by
 obtain⟨k,hk,h1⟩:=h;exact⟨k,hk,by rw[Int.natAbs_neg];exact h1⟩
theorem zlE {O:Nat->Prop}{w:World}{b zb a n:Nat}{z:Int}{ab be no so:Bool}(h:AggAt O w b zb (.floats a n z ab be no so))(hz:zaR z):Calls Tryz.prog 143 #[.pointer (some ⟨b,0,none⟩)] w (zd9 w (zgg a n z ab be no so) 0):=by
 obtain⟨hb,hi,hzb⟩:=h.floats;have HBX:=zh hb;have HI:=zh hi;have HZ:=zh hz;clear h hb hi hzb hz;obtain⟨R,hR⟩:=Fld.nm (zgg a n z ab be no so);rw[<-hR];have HR:=zh hR;clear hR;obtain⟨W1,hW,a0,hBW⟩:=zao w 39 [.bool false,.int .i64 0,.string ⟨#[]⟩,.slice none 0 0];have HW:=zh hW;have HB:=zh hBW;have HA:=zh a0;clear hW hBW a0
 go_in
 go_wp2_with fail;rw[show w.alloc (Obj.cells #[.bool false,.int .i64 0,.string ⟨#[]⟩,.slice none 0 0] 39)=W1 from HW.o.symm];obtain⟨u,hu⟩:=Fld.nm (w.heap.size);rw[<-hu] at HA ⊢;have HU:=zh hu;clear hu HW;obtain⟨V,hV⟩:=Fld.nm (W1.drew);have HV:=zh (show Below w.heap.size w V by rw[hV];exact zaf HB.o);have HAV:=zh (show BoxN V u 39 [.bool false,.int .i64 0,.string ⟨#[]⟩,.slice none 0 0] by rw[hV];exact HA.o);have HXV:=zh (HBX.o.below HV.o HBX.o.lt);have HIV:=zh (HI.o.below (w':=V) (Below.mono HV.o (Nat.le_refl _)));have HS:=zh (show V.cell? ⟨b,0,none⟩=some (zbW a)/\V.cell? ⟨b,1,none⟩=some (zbW n) from⟨HXV.o.row 0 _ rfl,HXV.o.row 1 _ rfl⟩);refine Late.region (fun w'=>w'.cell? ⟨b,0,none⟩=some (zbW a)/\w'.cell? ⟨b,1,none⟩=some (zbW n)) (fun j=>false) rfl ?_;rw[<-hV];clear hV;refine Late.tb (i:=0) (v:=?_) ?_ HS.o ?_;rotate_left
 ·intro w' hS;clear hS;go_simp;rfl
 refine Late.tb (i:=1) (v:=?_) ?_ HS.o ?_;rotate_left
 ·intro w' hS;clear hS;go_simp;rfl
 refine Late.tb (i:=2) (v:=?_) ?_ HS.o ?_;rotate_left
 ·intro w' hS;clear hS;go_simp;rfl
 refine Late.tb (i:=3) (v:=?_) ?_ HS.o ?_;rotate_left
 ·intro w' hS;clear hS;go_simp;rfl
 refine Late.tb (i:=4) (v:=?_) ?_ HS.o ?_;rotate_left
 ·intro w' hS;have p0:=hS.1;clear hS;go_simp;rfl
 refine Late.tb (i:=5) (v:=?_) ?_ HS.o ?_;rotate_left
 ·intro w' hS;clear hS;go_simp;rfl
 refine Late.tb (i:=6) (v:=?_) ?_ HS.o ?_;rotate_left
 ·intro w' hS;clear hS;go_simp;rfl
 refine Late.tb (i:=7) (v:=?_) ?_ HS.o ?_;rotate_left
 ·intro w' hS;clear hS;go_simp;rfl
 refine Late.tb (i:=8) (v:=?_) ?_ HS.o ?_;rotate_left
 ·intro w' hS;clear hS;go_simp;rfl
 refine Late.tb (i:=9) (v:=?_) ?_ HS.o ?_;rotate_left
 ·intro w' hS;have p1:=hS.2;clear hS;go_simp;rfl
 refine Late.tb (i:=10) (v:=?_) ?_ HS.o ?_;rotate_left
 ·intro w' hS;clear hS;go_simp;rfl
 refine Late.tb (i:=11) (v:=?_) ?_ HS.o ?_;rotate_left
 ·intro w' hS;clear hS;go_simp;rfl
 refine Late.done (by kernel_rfl) ?_ _;go_simp;have p2:V.cell? ⟨b,2,none⟩=some (.pointer (some ⟨zb,0,none⟩)):=HXV.o.row 2 _ rfl;have p3:V.cell? ⟨b,3,none⟩=some (.bool ab):=HXV.o.row 3 _ rfl;have p4:V.cell? ⟨b,4,none⟩=some (.bool be):=HXV.o.row 4 _ rfl;have p5:V.cell? ⟨b,5,none⟩=some (.bool no):=HXV.o.row 5 _ rfl;have p6:V.cell? ⟨b,6,none⟩=some (.bool so):=HXV.o.row 6 _ rfl;obtain⟨q0,q1,q2,q3⟩:=rr4 HAV.o.row;obtain⟨z0,z1,z2,z3⟩:=ff4 HAV.o;have hlt:=HAV.o.lt;have hlb:=HXV.o.lt;by_cases han:a=n
 ·have HE:=zh (show R=.mk true 0 ⟨#[]⟩ [] by rw[HR.o];unfold zgg;rw[if_pos han]);have hb1:((a:Int) == (n:Int))=true:=by simp;omega
  have hb2:(a == n)=true:=by simpa using han
  clear han;go_wp2_with fail;rw[HE.o];exact zbr rfl HAV.o HU.o HV.o (fun W=>VAt.flat _ _ _) rfl rfl
 have hb1:((a:Int) == (n:Int))=false:=by simp;omega
 have hb2:(a == n)=false:=by simpa using han
 have HRX:=zh (show R=.mk false (zd0 z ab be no so) ⟨#[]⟩ [] by rw[HR.o];unfold zgg;rw[if_neg han]);clear han HR;cases no with
 | true=>
  have HE:=zh (show R=.mk false 9221120237041090560 ⟨#[]⟩ [] by rw[HRX.o];unfold zd0;simp);clear HRX;go_wp2_with fail;rw[HE.o];exact zbr rfl HAV.o HU.o HV.o (fun W=>VAt.flat _ _ _) rfl rfl
 | false=>
  cases ab with
  | true=>
   cases be with
   | true=>
    have HE:=zh (show R=.mk false 9221120237041090560 ⟨#[]⟩ [] by rw[HRX.o];unfold zd0;simp);clear HRX;go_wp2_with fail;rw[HE.o];exact zbr rfl HAV.o HU.o HV.o (fun W=>VAt.flat _ _ _) rfl rfl
   | false=>
    have HE:=zh (show R=.mk false 9218868437227405312 ⟨#[]⟩ [] by rw[HRX.o];unfold zd0;simp);clear HRX;go_wp2_with fail;rw[HE.o];exact zbr rfl HAV.o HU.o HV.o (fun W=>VAt.flat _ _ _) rfl rfl
  | false=>
   cases be with
   | true=>
    have HE:=zh (show R=.mk false (-4503599627370496) ⟨#[]⟩ [] by rw[HRX.o];unfold zd0;simp);clear HRX;go_wp2_with fail;rw[HE.o];exact zbr rfl HAV.o HU.o HV.o (fun W=>VAt.flat _ _ _) rfl rfl
   | false=>
    have HSG:=zh (znF HIV.o HZ.o);by_cases hzs:z=0/\so=false
    ·obtain⟨hz0,hso⟩:=hzs;have HE:=zh (show R=.mk false (-9223372036854775808) ⟨#[]⟩ [] by rw[HRX.o];unfold zd0;simp[hz0,hso]);rw[show zd8 z=0 by rw[hz0];rfl] at HSG;subst hso;clear HRX hz0;go_wp2_with fail;refine HSG.o.mono ?_;rintro e w2 ⟨rfl,rfl⟩;go_wp2_with fail;rw[HE.o];exact zbr rfl HAV.o HU.o HV.o (fun W=>VAt.flat _ _ _) rfl rfl
    by_cases hzn:z<0
    ·have HE:=zh (show R=.mk false (bits .or .i64 (zhD z.natAbs) (-9223372036854775808)) ⟨#[]⟩ [] by
      rw[HRX.o];unfold zd0;rw[if_neg (by simp),if_neg (by simp),if_neg (by simp),if_neg hzs,if_pos hzn])
     rw[show zd8 z=-1 by unfold zd8;rw[if_pos hzn]] at HSG;obtain⟨v,hv⟩:∃v:Nat,v=z.natAbs:=⟨_,rfl⟩;have HVZ:=zh (show -z=(v:Int) by omega);have HSV:=zh (show zaR (v:Int) by rw[<-HVZ.o];exact zdf HZ.o);rw[<-hv] at HE;clear HRX hzs hzn hv;go_wp2_with fail;refine HSG.o.mono ?_;rintro e w2 ⟨rfl,rfl⟩;go_wp2_with fail;refine HSG.o.mono ?_;rintro e w2 ⟨rfl,rfl⟩;obtain⟨W7,hW7,a7,b7⟩:=zao w2 93 [.bool false,.slice none 0 0];have HW7:=zh hW7;have HB7:=zh b7;have HN:=zh (zdH a7 (HIV.o.below b7) HZ.o);clear hW7 a7 b7;go_wp2_with fail;rw[show w2.alloc (Obj.cells #[.bool false,.slice none 0 0] 93)=W7 from HW7.o.symm];refine HN.o.mono ?_;rintro e w3 ⟨rfl,g3,i3⟩;have HB3:=zh (show Below w2.heap.size w2 w3 from HB7.o.grown g3 HB7.o.size (fun k e=>by have:=Option.some.inj e;omega));have HRD:=zh (zg3 (S:=fun b=>W7.heap.size<=b) (v:=v) (by rw[<-HVZ.o];exact i3) HSV.o);clear g3 i3 HN;go_wp2_with fail;refine HRD.o.mono ?_;rintro e w4 ⟨rfl,b4⟩;have HB4:=zh (HB3.o.trans (b4.mono HB3.o.size));clear b4 HRD;have HA4:=zh (HAV.o.below HB4.o HAV.o.lt);have HV4:=zh (HV.o.trans (HB4.o.mono HV.o.size));clear p2 p3 p4 p5 p6 q0 q1 q2 q3 z0 z1 z2 z3 hlt;obtain⟨q0,q1,q2,q3⟩:=rr4 HA4.o.row;obtain⟨z0,z1,z2,z3⟩:=ff4 HA4.o;have hlt:=HA4.o.lt;go_wp2_with fail;rw[HE.o];exact zbr rfl HA4.o HU.o HV4.o (fun W=>VAt.flat _ _ _) rfl rfl
    ·have HE:=zh (show R=.mk false (zhD z.natAbs) ⟨#[]⟩ [] by
      rw[HRX.o];unfold zd0;rw[if_neg (by simp),if_neg (by simp),if_neg (by simp),if_neg hzs,if_neg hzn])
     obtain⟨v,hv⟩:∃v:Nat,v=z.natAbs:=⟨_,rfl⟩;have hvz:z=(v:Int):=by omega
     rw[<-hv] at HE;have HRD:=zh (zg3 (v:=v) (by rw[<-hvz];exact HIV.o) (by rw[<-hvz];exact HZ.o));obtain⟨sg,hsg⟩:=Fld.nm (zd8 z);rw[<-hsg] at HSG;have hsg2:¬sg<0:=by rw[hsg];unfold zd8;rw[if_neg hzn];split <;> omega
     have hs1:decide (sg<0)=false:=by simpa using hsg2
     have hs2:((sg == 0) && !so)=false:=by
      rw[hsg];unfold zd8;rw[if_neg hzn];by_cases h0:z=0
      ·rw[if_pos h0];cases so with
       | true=>rfl
       | false=>exact absurd ⟨h0,rfl⟩ hzs
      ·rw[if_neg h0];rfl
     clear HRX hzs hzn hv hvz hsg;cases hsz:sg == 0 with
     | true=>
      rw[hsz] at hs2;have hso:so=true:=by simpa using hs2
      subst hso;clear hs2;go_wp2_with fail;refine HSG.o.mono ?_;rintro e w2 ⟨rfl,rfl⟩;go_wp2_with fail;refine HSG.o.mono ?_;rintro e w2 ⟨rfl,rfl⟩;go_wp2_with fail;refine HRD.o.mono ?_;rintro e w4 ⟨rfl,b4⟩;have HA4:=zh (HAV.o.below b4 HAV.o.lt);have HV4:=zh (HV.o.trans (b4.mono HV.o.size));clear b4 HRD p2 p3 p4 p5 p6 q0 q1 q2 q3 z0 z1 z2 z3 hlt;obtain⟨q0,q1,q2,q3⟩:=rr4 HA4.o.row;obtain⟨z0,z1,z2,z3⟩:=ff4 HA4.o;have hlt:=HA4.o.lt;go_wp2_with fail;rw[HE.o];exact zbr rfl HA4.o HU.o HV4.o (fun W=>VAt.flat _ _ _) rfl rfl
     | false=>
      clear hs2;go_wp2_with fail;refine HSG.o.mono ?_;rintro e w2 ⟨rfl,rfl⟩;go_wp2_with fail;refine HSG.o.mono ?_;rintro e w2 ⟨rfl,rfl⟩;go_wp2_with fail;refine HRD.o.mono ?_;rintro e w4 ⟨rfl,b4⟩;have HA4:=zh (HAV.o.below b4 HAV.o.lt);have HV4:=zh (HV.o.trans (b4.mono HV.o.size));clear b4 HRD p2 p3 p4 p5 p6 q0 q1 q2 q3 z0 z1 z2 z3 hlt;obtain⟨q0,q1,q2,q3⟩:=rr4 HA4.o.row;obtain⟨z0,z1,z2,z3⟩:=ff4 HA4.o;have hlt:=HA4.o.lt;go_wp2_with fail;rw[HE.o];exact zbr rfl HA4.o HU.o HV4.o (fun W=>VAt.flat _ _ _) rfl rfl
def zf5 (num:Int):Nat:=(num % 18446744073709551616).toNat / 4503599627370496 % 2048
def zhF (num:Int):Nat:=(num % 18446744073709551616).toNat % 4503599627370496
def zjF (num:Int):Nat:=if 0<zf5 num then(zhF num+4503599627370496)*2 ^ (zf5 num-1) else zhF num
def za5 (num:Int):Int:=if num<0 then -(zjF num:Int) else zjF num
theorem zmW (num:Int):zf5 num<2048:=Nat.mod_lt _ (by decide)
theorem zmX (num:Int):zhF num<4503599627370496:=Nat.mod_lt _ (by decide)
theorem zpX {A:Nat}(h:A<18446744073709551616):bits .and .u64 (A:Int) 2047=((A % 2048:Nat):Int):=by
 have h1:=u64_and_nat A 2047 h (by decide);rw[show(2047:Nat)=2 ^ 11-1 from rfl,Nat.and_two_pow_sub_one_eq_mod] at h1;exact h1
theorem zrf {A:Nat}(h:A<18446744073709551616):bits .and .u64 (A:Int) 4503599627370495=((A % 4503599627370496:Nat):Int):=by
 have h1:=u64_and_nat A 4503599627370495 h (by decide);rw[show(4503599627370495:Nat)=2 ^ 52-1 from rfl,Nat.and_two_pow_sub_one_eq_mod] at h1;exact h1
theorem zjb {m:Nat}(h:m<4503599627370496):bits .or .u64 (m:Int) 4503599627370496=((m+4503599627370496:Nat):Int):=by
 have h32:(2:Int) ^ 52=4503599627370496:=by decide
 rw[znr (i:=52) (by omega) (by omega) (by rw[h32];omega) (by omega) (by rw[h32];omega) (by omega)];omega
theorem zmY (num:Int){L:Nat}(hL:L=2046):zjF num<2 ^ (53+L):=by
 have h1:=zmW num;have h2:=zmX num;unfold zjF;rw[Nat.pow_add];split
 ·have h3:2 ^ (zf5 num-1)<=2 ^ L:=Nat.pow_le_pow_right (by decide) (by omega);refine Nat.lt_of_lt_of_le (Nat.mul_lt_mul_of_pos_right (show zhF num+4503599627370496<2 ^ 53 from ?_) (Nat.pow_pos (by decide))) (Nat.mul_le_mul_left _ h3);have:(2:Nat) ^ 53=9007199254740992:=by decide
  omega
 ·have h3:1<=2 ^ L:=Nat.one_le_two_pow;refine Nat.lt_of_lt_of_le (show zhF num<2 ^ 53 from ?_) (Nat.le_mul_of_pos_right _ h3);have:(2:Nat) ^ 53=9007199254740992:=by decide
  omega
theorem zke (num:Int):zaR (zjF num:Int):=by
 obtain⟨L,hL⟩:=Fld.nm (2046);obtain⟨k,hk⟩:=Fld.nm (70);exact⟨k,by omega,Nat.lt_of_lt_of_le (show((zjF num:Nat):Int).natAbs<2 ^ (53+L) from zmY num hL) (Nat.pow_le_pow_right (by decide) (by omega))⟩
theorem zcz (num:Int):zaR (za5 num):=by
 unfold za5;split
 ·exact zdf (zke num)
 ·exact zke num
structure Fl where
 z:Int
 ab:Bool
 be:Bool
 no:Bool
 so:Bool
def za8 (s:Fl)(num:Int):Fl:=
 let t:={ s with so:=s.so || num != -9223372036854775808 }
 if zf5 num=2047/\zhF num≠0 then { t with no:=true }
 else if zf5 num=2047/\num<0 then { t with be:=true }
 else if zf5 num=2047 then { t with ab:=true }
 else { t with z:=s.z+za5 num }
def zc3:Vl:=.mk false 0 ⟨#[]⟩ []
def zkG:Vl:=.mk true 0 ⟨#[]⟩ []
def zcD (c:Int)(most:Bool)(best v:Vl)(first:Bool):Vl:=if first=true\/(most=true/\0<c)\/(most=false/\c<0) then v else best
def zaJ (C:Fd->Vl->Vl->Int)(s:Agg)(v:Vl):Agg:=
 match s with
 | .number a n r=>.number (a+1) (zaO n v.nl) r
 | .floats a n z ab be no so=>if v.nl then .floats (a+1) (zaO n v.nl) z ab be no so else .floats (a+1) (zaO n v.nl) (za8 ⟨z,ab,be,no,so⟩ v.num).z (za8 ⟨z,ab,be,no,so⟩ v.num).ab (za8 ⟨z,ab,be,no,so⟩ v.num).be (za8 ⟨z,ab,be,no,so⟩ v.num).no (za8 ⟨z,ab,be,no,so⟩ v.num).so
 | .wholes a n k z=>.wholes (a+1) (zaO n v.nl) k (zhE z k v.nl v.num)
 | .bound a n f most best=>.bound (a+1) (zaO n v.nl) f most (if v.nl then best else zcD (C f v best) most best v (decide (a=n)))
 | .aend a n last one=>.aend (a+1) (zaO n v.nl) last (if a=0\/last=true then v else one)
 | .logic a n l tr=>.logic (a+1) (zaO n v.nl) l (zpW tr v.nl v.num)
def zb9 (s:Agg):Vl × Int:=
 match s with
 | .number a n r=>(.mk false (zre a n r) ⟨#[]⟩ [],0)
 | .floats a n z ab be no so=>(zgg a n z ab be no so,0)
 | .wholes a n k z=>zdq a n k z
 | .bound a n f most best=>(if a=n then zkG else best,0)
 | .aend a n last one=>(if a=0 then zkG else one,0)
 | .logic a n l tr=>(zeG a n l tr,0)
def zcr (op:Int)(g:Fd)(kind:Int):Agg:=
 if op=1\/op=2 then .number 0 0 (decide (op=2))
 else if op=3 then(if kind=11 then .floats 0 0 0 false false false false else .wholes 0 0 g.k 0)
 else if op=4\/op=5 then .bound 0 0 g (decide (op=5)) zc3
 else if op=6\/op=7 then .aend 0 0 (decide (op=7)) zc3
 else .logic 0 0 (decide (op=9)) 0
theorem zkf {P:Vl->Prop}{x v:Vl}(c:Int)(most first:Bool)(hx:first=false->P x)(hv:P v):P (zcD c most x v first):=by
 unfold zcD;split
 ·exact hv
 ·rename_i h
  refine hx ?_;cases first with
  | true=>exact absurd (.inl rfl) h
  | false=>rfl
def zbN (f:Fd):Bool:=zbh f == 0
theorem zkg {f:Fd}(h:zbN f=true):zbm 0 [] (zbR 64 1 [f] false)=0:=by
 unfold zbN zbh zfa at h;simpa using h
theorem zgJ {f:Fd}(h:zbN f=true):okF f:=by
 have:=zfs 64 1 [f] false rfl (zdP (zkg h));exact zeL this.1 f (List.mem_cons_self ..)
theorem zii {f:Fd}(h:zbN f=true):zdw f.nm=true:=by
 have h1:=zdP (zkg h);obtain⟨⟨a,ha⟩,_⟩:=zcn (zbR 63) 1 [f] false [f] 0 f (List.mem_cons_self ..);obtain⟨_,_,hw⟩:=h1 _ ha;exact(zdo hw).2.1
def zaD (nm:ByteArray)(nl:Bool)(k:Int):Fd:=.mk nm nl k 0 0 0 []
theorem zmA (nm:ByteArray)(nl:Bool)(k:Int):zbR 64 1 [zaD nm nl k] false=[⟨1,[],zaD nm nl k,false⟩]:=rfl
theorem zhG {nm:ByteArray}(hn:zdw nm=true)(nl:Bool)(k:Int):zbh (zaD nm nl k)=if zaU (zaD nm nl k)=false then 32 else if zc5 (zaD nm nl k)=false then 35 else if k=19 then 36 else 0:=by
 unfold zbh zfa;rw[zmA,ziN];unfold za7;simp only[show(zaD nm nl k).nm=nm from rfl,hn];simp only[show(zaD nm nl k).k=k from rfl];by_cases h1:zaU (zaD nm nl k)=false
 ·simp[h1]
 ·simp only[h1];by_cases h2:zc5 (zaD nm nl k)=false
  ·simp[h2]
  ·simp only[h2];by_cases h3:k=19
   ·exact absurd (zfb (f:=zaD nm nl k) (by simpa using h1) (.inl h3)) (by simp[zaD,Fd.kids])
   ·simp[h3]
theorem zcA {nm:ByteArray}(hn:zdw nm=true)(nl:Bool){k:Int}(h1:2<=k)(h2:k<=13):zbN (zaD nm nl k)=true:=by
 unfold zbN;rw[zhG hn];have e14:¬k=14:=by omega
 have e15:¬k=15:=by omega
 have e16:¬k=16:=by omega
 have e17:¬k=17:=by omega
 have e18:¬k=18:=by omega
 have e19:¬k=19:=by omega
 have e20:¬k=20:=by omega
 have e1:¬k=1:=by omega
 have hf:zaU (zaD nm nl k)=true:=by
  simp[zaU,zaD,Fd.k,Fd.wd,Fd.id,Fd.ix,Fd.kids,zbV,zb4,zbE,zbH,e14,e15,e16,e17,e18,e19,e20,show 1<=k by omega,show k<=20 by omega]
 have hu:zc5 (zaD nm nl k)=true:=by
  simp[zc5,zaD,Fd.k,e1,e18,e20]
 simp[hf,hu,e19]
theorem zgK {nm:ByteArray}(hn:zdw nm=true)(nl:Bool):zbN (zaD nm nl 0)=false:=by
 unfold zbN;rw[zhG hn];rfl
theorem zpY (f:Fd):(zax f).nm=f.nm:=by
 by_cases hk:f.k=19\/f.k=20
 ·cases hkd:f.kids with
  | nil=>rw[zir,if_pos hk,hkd];rfl
  | cons g r=>rw[zgj hk hkd];rfl
 ·rw[zfT hk];rfl
def noF:Fd:=.mk ⟨#[]⟩ false 0 0 0 0 []
def zbk (op:Int)(f:Fd):Fd × Int:=
 if zbN f=false then(noF,5)
 else if op=1\/op=2 then(zaD f.nm false 6,0)
 else if op=3 then
  (if 3<=(zax f).k/\(zax f).k<=6 then(zaD f.nm true 6,0)
   else if 7<=(zax f).k/\(zax f).k<=10 then(zaD f.nm true 10,0)
   else if(zax f).k=11 then(zaD f.nm true 11,0) else(noF,5))
 else if 4<=op/\op<=7 then(if zbN ((zax f).named f.nm true)=true then((zax f).named f.nm true,0) else(noF,5))
 else if op=8\/op=9 then(if(zax f).k=2 then(zaD f.nm true 2,0) else(noF,5))
 else(noF,1)
theorem zoP {op:Int}{f:Fd}(h:(zbk op f).2=0):zbN (zbk op f).1=true:=by
 unfold zbk at h ⊢;by_cases h0:zbN f=false
 ·rw[if_pos h0] at h;cases h
 have hn:=zii (by simpa using h0);rw[if_neg h0] at h ⊢;by_cases h1:op=1\/op=2
 ·rw[if_pos h1];exact zcA hn _ (by decide) (by decide)
 rw[if_neg h1] at h ⊢;by_cases h3:op=3
 ·rw[if_pos h3] at h ⊢;by_cases a:3<=(zax f).k/\(zax f).k<=6
  ·rw[if_pos a];exact zcA hn _ (by decide) (by decide)
  rw[if_neg a] at h ⊢;by_cases b:7<=(zax f).k/\(zax f).k<=10
  ·rw[if_pos b];exact zcA hn _ (by decide) (by decide)
  rw[if_neg b] at h ⊢;by_cases c:(zax f).k=11
  ·rw[if_pos c];exact zcA hn _ (by decide) (by decide)
  ·rw[if_neg c] at h;cases h
 rw[if_neg h3] at h ⊢;by_cases h4:4<=op/\op<=7
 ·rw[if_pos h4] at h ⊢;by_cases a:zbN ((zax f).named f.nm true)=true
  ·rw[if_pos a];exact a
  ·rw[if_neg a] at h;cases h
 rw[if_neg h4] at h ⊢;by_cases h8:op=8\/op=9
 ·rw[if_pos h8] at h ⊢;by_cases a:(zax f).k=2
  ·rw[if_pos a];exact zcA hn _ (by decide) (by decide)
  ·rw[if_neg a] at h;cases h
 ·rw[if_neg h8] at h;cases h
theorem zf6 {f:Fd}(h:zbN f=true):zck false f:=zg1 (by unfold zbN at h;simpa using h)
theorem zpZ {op:Int}{f:Fd}(h:(zbk op f).2=0):1<=op/\op<=9/\zbN f=true:=by
 unfold zbk at h;by_cases h0:zbN f=false
 ·rw[if_pos h0] at h;cases h
 rw[if_neg h0] at h;have hm:zbN f=true:=by simpa using h0
 by_cases h1:op=1\/op=2
 ·exact⟨by omega,by omega,hm⟩
 rw[if_neg h1] at h;by_cases h3:op=3
 ·exact⟨by omega,by omega,hm⟩
 rw[if_neg h3] at h;by_cases h4:4<=op/\op<=7
 ·exact⟨by omega,by omega,hm⟩
 rw[if_neg h4] at h;by_cases h8:op=8\/op=9
 ·exact⟨by omega,by omega,hm⟩
 rw[if_neg h8] at h;cases h
def zjc (a n:Nat)(last:Bool)(one:Vl)(p:Option Addr)(c:Nat):List Value:=[zbW a,zbW n,.bool last,.bool one.nl,.int .i64 one.num,.string one.tx,.slice p one.kids.length c]
theorem AggAt.aend {O:Nat->Prop}{w:World}{b zb a n:Nat}{last:Bool}{one:Vl}(h:AggAt O w b zb (.aend a n last one)):∃p c,BoxN w b 104 (zjc a n last one p c)/\VAt (fun k=>¬O k) w one (v4 one p c):=by
 obtain⟨-,-,t,cs,hb,rfl,vcs,rfl,hv⟩:=h;obtain⟨p,c,rfl,-⟩:=hv.shape;exact⟨p,c,hb,hv⟩
theorem AggAt.aend' {O:Nat->Prop}{w w':World}{b zb a n a' n':Nat}{last:Bool}{one one':Vl}{p:Option Addr}{c:Nat}(h:AggAt O w b zb (.aend a n last one))(hs:w.heap.size<=w'.heap.size)(hb:BoxN w' b 104 (zjc a' n' last one' p c))(hv:VAt (fun k=>¬O k) w' one' [.bool one'.nl,.int .i64 one'.num,.string one'.tx,.slice p one'.kids.length c]):AggAt O w' b zb (.aend a' n' last one'):=
 ⟨h.own,fun k hk=>Nat.lt_of_lt_of_le (h.lt k hk) hs,104,_,hb,rfl,_,rfl,hv⟩
theorem zp0 {O:Nat->Prop}{w:World}{b zb a n:Nat}{last:Bool}{one:Vl}(C:Fd->Vl->Vl->Int)(h:AggAt O w b zb (.aend a n last one))(ha:a<=2147483647)(hn:n<=2147483647){v:Vl}{cs:List Value}(hv:VAt (fun _=>True) w v cs)(hf:VFew v) :
  Calls Tryz.prog 209 #[.pointer (some ⟨b,0,none⟩),.agg cs.toArray] w (zb6 O w b zb (zaJ C (.aend a n last one) v)):=by
 obtain⟨p,c,hb,ho⟩:=h.aend;obtain⟨vp,vc,rfl,-⟩:=hv.shape;have HH:=zh h;have HBX:=zh hb;have HO:=zh ho;obtain⟨W1,hW,a0,hBW⟩:=zao w 39 (v4 v vp vc);have HW:=zh hW;have HB:=zh hBW;have HA:=zh a0;have HBX1:=zh (hb.below hBW hb.lt);have HOW:=zh (ze5 hf (hv.below hBW));have p0:w.cell? ⟨b,0,none⟩=some (zbW a):=hb.row 0 _ rfl;have p2:w.cell? ⟨b,2,none⟩=some (.bool last):=hb.row 2 _ rfl;have hlt:=hb.lt;have hlt1:=HBX1.o.lt;have hub:b≠w.heap.size:=by omega
 clear h hb ho hW a0 hBW hv hf;obtain⟨u,hu⟩:=Fld.nm (w.heap.size);have HU:=zh hu;clear hu;by_cases ht:a=0\/last=true
 ·have HE:=zh (show zaJ C (.aend a n last one) v=.aend (a+1) (zaO n v.nl) last v by simp only[zaJ];rw[if_pos ht]);rw[HE.o];have hor:((a:Int) == 0)=true\/((a:Int) == 0)=false/\last=true:=by
   by_cases e:a=0
   ·exact .inl (by simp[e])
   ·exact .inr ⟨by simp;omega,ht.resolve_left e⟩
  clear ht;have key:∀(T:Unit),True:=fun _=>trivial;rcases hor with q|⟨q,ql⟩
  ·clear key
   go_in
   go_wp2_with fail;rw[<-HW.o];refine HOW.o.mono ?_;rintro e W2 ⟨q2,c2,rfl,hv2,hb2⟩;have HB2:=zh (show Below w.heap.size w W2 from HB.o.trans (hb2.mono HB.o.size));have HV2:=zh hv2;have HX2:=zh (HBX1.o.below hb2 HBX1.o.lt);have HAU2:=zh (show BoxN W2 u 39 (v4 v vp vc) by rw[HU.o];exact HA.o.below hb2 HA.o.lt);clear hv2 hb2 p0;have hlt2:=HX2.o.lt;have z3:=HX2.o.frozen 3;have z4:=HX2.o.frozen 4;have z5:=HX2.o.frozen 5;have z6:=HX2.o.frozen 6;have y3:W2.cell? ⟨b,3,none⟩=some (.bool one.nl):=HX2.o.row 3 _ rfl;have y4:W2.cell? ⟨b,4,none⟩=some (.int .i64 one.num):=HX2.o.row 4 _ rfl;have y5:W2.cell? ⟨b,5,none⟩=some (.string one.tx):=HX2.o.row 5 _ rfl;have y6:W2.cell? ⟨b,6,none⟩=some (.slice p one.kids.length c):=HX2.o.row 6 _ rfl;go_wp2_with fail;obtain⟨W3,hW3⟩:∃W,W=(((W2.setCell ⟨b,3,none⟩ (.bool v.nl)).setCell ⟨b,4,none⟩ (.int .i64 v.num)).setCell ⟨b,5,none⟩ (.string v.tx)).setCell ⟨b,6,none⟩ (.slice q2 v.kids.length c2):=⟨_,rfl⟩;have hg3:W2.grownBy W3 (some b):=by rw[hW3];exact zad (zad (zad (zai _ _ _ _) (zai _ _ _ _)) (zai _ _ _ _)) (zai _ _ _ _)
   have HX3:=zh (show BoxN W3 b 104 (zjc a n last v q2 c2) by rw[hW3];exact(((HX2.o.set 3 _).set 4 _).set 5 _).set 6 _);have HAU:=zh (show BoxN W3 u 39 (v4 v vp vc) from HAU2.o.kept hg3 (fun e=>by have h1:=Option.some.inj e;have h2:=HU.o;omega));have HC3:Hid (Chg (zas b zb) w W3):=zh ((Chg.below HB2.o).trans (Chg.grown hg3 (.inl rfl)));have HVL:=zh (show VAt (fun k=>¬O k) W3 v (v4 v q2 c2) from HV2.o.keep (fun k hk hl=>⟨hg3.block k hl (fun e=>by have h1:=Option.some.inj e;have h2:=HB.o.size;omega),fun ho=>by have h1:=HH.o.lt k ho;have h2:=HB.o.size;omega⟩));rw[<-hW3,<-HU.o];clear hW3 hg3 y3 y4 y5 y6 z3 z4 z5 z6 hlt2;obtain⟨V,hV⟩:=Fld.nm (W3.drew);have HV:=zh (show Below W3.heap.size W3 V by rw[hV];exact zaf (Below.refl _ _));have HXV:=zh (HX3.o.below HV.o HX3.o.lt);have HAV:=zh (show BoxN V u 39 (v4 v vp vc) from HAU.o.below HV.o HAU.o.lt);have HS:=zh (show RowAt V u (v4 v vp vc) from HAV.o.row);refine Late.region (fun w'=>RowAt w' u (v4 v vp vc)) (fun j=>decide (4<=j)) rfl ?_;rw[<-hV];clear hV;refine Late.tb (i:=0) (v:=?_) ?_ HS.o ?_;rotate_left
   ·intro w' hS;clear hS;go_simp;rfl
   refine Late.tb (i:=1) (v:=?_) ?_ HS.o ?_;rotate_left
   ·intro w' hS;clear hS;go_simp;rfl
   refine Late.tb (i:=2) (v:=?_) ?_ HS.o ?_;rotate_left
   ·intro w' hS;clear hS;go_simp;rfl
   refine Late.tb (i:=3) (v:=?_) ?_ HS.o ?_;rotate_left
   ·intro w' hS;have p0:=hS 0 _ rfl;have p1:=hS 1 _ rfl;have p2:=hS 2 _ rfl;have p3:=hS 3 _ rfl;clear hS;go_simp;rfl
   refine Late.on (i:=4) fun K hK=>?_;go_simp;refine(zbU HXV.o ha hn v.nl (.int .i64 v.num) (.string v.tx) (.slice vp v.kids.length vc)).mono ?_;rintro e w5 ⟨rfl,h1,h2⟩;have HG:=zh h1;have HB5:=zh h2;clear h1 h2;refine hK _ _ (fun h=>by cases h) ?_;clear hK K;refine Late.done (by kernel_rfl) ?_ _;have HC5:Hid (Chg (zas b zb) w w5):=zh (HC3.o.trans ((Chg.below HV.o).trans (Chg.grown HG.o (.inl rfl))));have HV5:=zh (HVL.o.keep (T:=fun k=>¬O k) (fun k hk hl=>⟨((Chg.below HV.o).trans (Chg.grown (C:=zas b zb) HG.o (.inl rfl))).block k hl (fun h=>hk (by rcases h with e|e;exact e ▸ HH.o.own.1;exact e ▸ HH.o.own.2)),hk⟩));go_wp2_with fail;go_end0;exact⟨rfl,HC5.o,HH.o.aend' HC5.o.size HB5.o HV5.o⟩
  ·clear key;subst ql
   go_in
   go_wp2_with fail;rw[<-HW.o];refine HOW.o.mono ?_;rintro e W2 ⟨q2,c2,rfl,hv2,hb2⟩;have HB2:=zh (show Below w.heap.size w W2 from HB.o.trans (hb2.mono HB.o.size));have HV2:=zh hv2;have HX2:=zh (HBX1.o.below hb2 HBX1.o.lt);have HAU2:=zh (show BoxN W2 u 39 (v4 v vp vc) by rw[HU.o];exact HA.o.below hb2 HA.o.lt);clear hv2 hb2 p0;have hlt2:=HX2.o.lt;have z3:=HX2.o.frozen 3;have z4:=HX2.o.frozen 4;have z5:=HX2.o.frozen 5;have z6:=HX2.o.frozen 6;have y3:W2.cell? ⟨b,3,none⟩=some (.bool one.nl):=HX2.o.row 3 _ rfl;have y4:W2.cell? ⟨b,4,none⟩=some (.int .i64 one.num):=HX2.o.row 4 _ rfl;have y5:W2.cell? ⟨b,5,none⟩=some (.string one.tx):=HX2.o.row 5 _ rfl;have y6:W2.cell? ⟨b,6,none⟩=some (.slice p one.kids.length c):=HX2.o.row 6 _ rfl;go_wp2_with fail;obtain⟨W3,hW3⟩:∃W,W=(((W2.setCell ⟨b,3,none⟩ (.bool v.nl)).setCell ⟨b,4,none⟩ (.int .i64 v.num)).setCell ⟨b,5,none⟩ (.string v.tx)).setCell ⟨b,6,none⟩ (.slice q2 v.kids.length c2):=⟨_,rfl⟩;have hg3:W2.grownBy W3 (some b):=by rw[hW3];exact zad (zad (zad (zai _ _ _ _) (zai _ _ _ _)) (zai _ _ _ _)) (zai _ _ _ _)
   have HX3:=zh (show BoxN W3 b 104 (zjc a n true v q2 c2) by rw[hW3];exact(((HX2.o.set 3 _).set 4 _).set 5 _).set 6 _);have HAU:=zh (show BoxN W3 u 39 (v4 v vp vc) from HAU2.o.kept hg3 (fun e=>by have h1:=Option.some.inj e;have h2:=HU.o;omega));have HC3:Hid (Chg (zas b zb) w W3):=zh ((Chg.below HB2.o).trans (Chg.grown hg3 (.inl rfl)));have HVL:=zh (show VAt (fun k=>¬O k) W3 v (v4 v q2 c2) from HV2.o.keep (fun k hk hl=>⟨hg3.block k hl (fun e=>by have h1:=Option.some.inj e;have h2:=HB.o.size;omega),fun ho=>by have h1:=HH.o.lt k ho;have h2:=HB.o.size;omega⟩));rw[<-hW3,<-HU.o];clear hW3 hg3 y3 y4 y5 y6 z3 z4 z5 z6 hlt2;obtain⟨V,hV⟩:=Fld.nm (W3.drew);have HV:=zh (show Below W3.heap.size W3 V by rw[hV];exact zaf (Below.refl _ _));have HXV:=zh (HX3.o.below HV.o HX3.o.lt);have HAV:=zh (show BoxN V u 39 (v4 v vp vc) from HAU.o.below HV.o HAU.o.lt);have HS:=zh (show RowAt V u (v4 v vp vc) from HAV.o.row);refine Late.region (fun w'=>RowAt w' u (v4 v vp vc)) (fun j=>decide (4<=j)) rfl ?_;rw[<-hV];clear hV;refine Late.tb (i:=0) (v:=?_) ?_ HS.o ?_;rotate_left
   ·intro w' hS;clear hS;go_simp;rfl
   refine Late.tb (i:=1) (v:=?_) ?_ HS.o ?_;rotate_left
   ·intro w' hS;clear hS;go_simp;rfl
   refine Late.tb (i:=2) (v:=?_) ?_ HS.o ?_;rotate_left
   ·intro w' hS;clear hS;go_simp;rfl
   refine Late.tb (i:=3) (v:=?_) ?_ HS.o ?_;rotate_left
   ·intro w' hS;have p0:=hS 0 _ rfl;have p1:=hS 1 _ rfl;have p2:=hS 2 _ rfl;have p3:=hS 3 _ rfl;clear hS;go_simp;rfl
   refine Late.on (i:=4) fun K hK=>?_;go_simp;refine(zbU HXV.o ha hn v.nl (.int .i64 v.num) (.string v.tx) (.slice vp v.kids.length vc)).mono ?_;rintro e w5 ⟨rfl,h1,h2⟩;have HG:=zh h1;have HB5:=zh h2;clear h1 h2;refine hK _ _ (fun h=>by cases h) ?_;clear hK K;refine Late.done (by kernel_rfl) ?_ _;have HC5:Hid (Chg (zas b zb) w w5):=zh (HC3.o.trans ((Chg.below HV.o).trans (Chg.grown HG.o (.inl rfl))));have HV5:=zh (HVL.o.keep (T:=fun k=>¬O k) (fun k hk hl=>⟨((Chg.below HV.o).trans (Chg.grown (C:=zas b zb) HG.o (.inl rfl))).block k hl (fun h=>hk (by rcases h with e|e;exact e ▸ HH.o.own.1;exact e ▸ HH.o.own.2)),hk⟩));go_wp2_with fail;go_end0;exact⟨rfl,HC5.o,HH.o.aend' HC5.o.size HB5.o HV5.o⟩
 ·have HE:=zh (show zaJ C (.aend a n last one) v=.aend (a+1) (zaO n v.nl) last one by simp only[zaJ];rw[if_neg ht]);rw[HE.o];have q:((a:Int) == 0)=false:=by simp;omega
  have ql:last=false:=by cases last with
   | true=>exact absurd (.inr rfl) ht
   | false=>rfl
  clear ht;subst ql;have HAU:=zh (show BoxN W1 u 39 (v4 v vp vc) by rw[HU.o];exact HA.o);have HC3:Hid (Chg (zas b zb) w W1):=zh (Chg.below HB.o);have HVL:=zh (show VAt (fun k=>¬O k) W1 one (v4 one p c) from HO.o.keep (fun k hk hl=>⟨HB.o.block k hl,hk⟩))
  go_in
  go_wp2_with fail;rw[<-HW.o,<-HU.o];clear p0 p2;obtain⟨V,hV⟩:=Fld.nm (W1.drew);have HV:=zh (show Below W1.heap.size W1 V by rw[hV];exact zaf (Below.refl _ _));have HXV:=zh (HBX1.o.below HV.o HBX1.o.lt);have HAV:=zh (show BoxN V u 39 (v4 v vp vc) from HAU.o.below HV.o HAU.o.lt);have HS:=zh (show RowAt V u (v4 v vp vc) from HAV.o.row);refine Late.region (fun w'=>RowAt w' u (v4 v vp vc)) (fun j=>decide (4<=j)) rfl ?_;rw[<-hV];clear hV;refine Late.tb (i:=0) (v:=?_) ?_ HS.o ?_;rotate_left
  ·intro w' hS;clear hS;go_simp;rfl
  refine Late.tb (i:=1) (v:=?_) ?_ HS.o ?_;rotate_left
  ·intro w' hS;clear hS;go_simp;rfl
  refine Late.tb (i:=2) (v:=?_) ?_ HS.o ?_;rotate_left
  ·intro w' hS;clear hS;go_simp;rfl
  refine Late.tb (i:=3) (v:=?_) ?_ HS.o ?_;rotate_left
  ·intro w' hS;have p0:=hS 0 _ rfl;have p1:=hS 1 _ rfl;have p2:=hS 2 _ rfl;have p3:=hS 3 _ rfl;clear hS;go_simp;rfl
  refine Late.on (i:=4) fun K hK=>?_;go_simp;refine(zbU HXV.o ha hn v.nl (.int .i64 v.num) (.string v.tx) (.slice vp v.kids.length vc)).mono ?_;rintro e w5 ⟨rfl,h1,h2⟩;have HG:=zh h1;have HB5:=zh h2;clear h1 h2;refine hK _ _ (fun h=>by cases h) ?_;clear hK K;refine Late.done (by kernel_rfl) ?_ _;have HC5:Hid (Chg (zas b zb) w w5):=zh (HC3.o.trans ((Chg.below HV.o).trans (Chg.grown HG.o (.inl rfl))));have HV5:=zh (HVL.o.keep (T:=fun k=>¬O k) (fun k hk hl=>⟨((Chg.below HV.o).trans (Chg.grown (C:=zas b zb) HG.o (.inl rfl))).block k hl (fun h=>hk (by rcases h with e|e;exact e ▸ HH.o.own.1;exact e ▸ HH.o.own.2)),hk⟩));go_wp2_with fail;go_end0;exact⟨rfl,HC5.o,HH.o.aend' HC5.o.size HB5.o HV5.o⟩
theorem zoQ {O:Nat->Prop}{w:World}{b zb a n:Nat}{last:Bool}{one:Vl}(h:AggAt O w b zb (.aend a n last one))(hf:VFew one):Calls Tryz.prog 210 #[.pointer (some ⟨b,0,none⟩)] w (zd9 w (zb9 (.aend a n last one)).1 (zb9 (.aend a n last one)).2):=by
 obtain⟨p,c,hb,ho⟩:=h.aend;have hlt:=hb.lt;have p0:w.cell? ⟨b,0,none⟩=some (zbW a):=hb.row 0 _ rfl;have p3:w.cell? ⟨b,3,none⟩=some (.bool one.nl):=hb.row 3 _ rfl;have p4:w.cell? ⟨b,4,none⟩=some (.int .i64 one.num):=hb.row 4 _ rfl;have p5:w.cell? ⟨b,5,none⟩=some (.string one.tx):=hb.row 5 _ rfl;have p6:w.cell? ⟨b,6,none⟩=some (.slice p one.kids.length c):=hb.row 6 _ rfl;obtain⟨W1,hW,a0,hBW⟩:=zao w 39 [.bool false,.int .i64 0,.string ⟨#[]⟩,.slice none 0 0];have HW:=zh hW;have HB:=zh hBW;have HA:=zh a0;have HOW:=zh (ze5 hf ((ho.mono (fun _ _=>trivial)).below hBW));have HV:=zh ho;clear h hb ho hW a0 hBW hf;by_cases ha0:a=0
 ·have HE:=zh (show zb9 (.aend a n last one)=(zkG,0) by simp only[zb9];rw[if_pos ha0]);rw[HE.o];have k1:((a:Int) == 0)=true:=by simp[ha0]
  clear ha0
  go_in
  go_wp2_with fail;exact zcw rfl (BoxN.new w 39 _) (VAt.flat _ _ _) ((Below.refl _ w).alloc (Nat.le_refl _) _) rfl rfl
 ·have HE:=zh (show zb9 (.aend a n last one)=(one,0) by simp only[zb9];rw[if_neg ha0]);rw[HE.o];have k1:((a:Int) == 0)=false:=by simp;omega
  clear ha0
  go_in
  go_wp2_with fail;rw[<-HW.o];refine HOW.o.mono ?_;rintro e W2 ⟨q2,c2,rfl,hv2,hb2⟩;have HB2:=zh (HB.o.trans (hb2.mono HB.o.size));have HV2:=zh hv2;have HSZ:Hid (W1.heap.size=w.heap.size+1):=zh (by rw[HW.o];simp only[World.size_alloc]);have HA2:=zh (HA.o.below hb2 HA.o.lt);obtain⟨z0,z1,z2,z3⟩:=ff4 HA2.o;obtain⟨x0,x1,x2,x3⟩:=rr4 HA2.o.row;have hlt2:=HA2.o.lt;clear hv2 hb2 p0 p3 p4 p5 p6;go_wp2_with fail;exact zcw rfl (zaS rfl HA2.o _ _ _ _) (HV2.o.keep (fun k hk hl=>⟨zaQ (by have:=HSZ.o;omega) _ _ _ _,by have:=HSZ.o;omega⟩)) (zbP HB2.o (Nat.le_refl _) _ _ _ _) rfl rfl
end Go.Fld
