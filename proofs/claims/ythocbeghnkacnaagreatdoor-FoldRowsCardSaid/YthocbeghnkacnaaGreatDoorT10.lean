import Derived.Test.YthocbeghnkacnaaGreatDoorT09
import Derived.Maps.AppendAt
set_option linter.unusedVariables false
set_option linter.unusedSimpArgs false
set_option linter.unnecessarySimpa false
set_option maxRecDepth 100000
set_option maxHeartbeats 16000000
namespace Go.Fld
open Go Go.RowKit Go.Proofs Go.ChangeShapes Go.WideShapes Go.ChangeAt Go.Shelf
namespace M
def one':M->Bool
 | .one v=>v.oneCell'
 | .many _ _=>true
theorem AtL.cells1 {S:Nat->Prop}{w:World}:∀ {r:List M} {vs:List Value},(∀m ∈ r,m.one'=true)->AtL S w r vs->∀u ∈ vs,u.oneCell'=true
 | [],vs,_,h,u,hu=>by rw[AtL.end h] at hu;cases hu
 | m :: r,vs,ho,h,u,hu=>by
  simp only[AtL] at h;obtain⟨v,us,rfl,h1,h2⟩:=h;rcases List.mem_cons.1 hu with e|e
  ·subst e;cases m with
   | one x=>simp only[At] at h1;subst h1;exact ho _ (List.mem_cons_self ..)
   | many sz rows=>simp only[At] at h1;obtain⟨p,c,rfl,_⟩:=h1;rfl
  ·exact AtL.cells1 (fun m hm=>ho m (List.mem_cons_of_mem _ hm)) h2 u e
theorem AtL.bound {S:Nat->Prop}{w:World}{r:List M}{vs:List Value}(h:AtL S w r vs):AtL (fun b=>b<w.heap.size) w r vs:=h.keep (fun b hs hlt=>⟨rfl,hlt⟩)
theorem RowsAt.flat {S:Nat->Prop}{w:World}{p:Option Addr}{sz:Nat}:∀ {rows:List (List M)} {off:Nat},(∀r ∈ rows,∀m ∈ r,m.one'=true)->RowsAt S w p sz off rows ->
  ∃css:List (List Value),css.length=rows.length/\(∀cs ∈ css,cs.length=sz)/\(∀u ∈ css.flatMap id,u.oneCell'=true) /\
   (∀b o,p=some ⟨b,o,none⟩->∀j u,(css.flatMap id)[j]?=some u->w.cell? ⟨b,o+off+j,none⟩=some u)/\(∀j (h:j<rows.length) (h':j<css.length),AtL S w rows[j] css[j])
 | [],off,_,_=>⟨[],rfl,by simp,by simp,by simp,fun j h=>absurd h (Nat.not_lt_zero _)⟩
 | r :: rs,off,ho,h=>by
  simp only[RowsAt] at h;obtain⟨⟨b,o,cs,h1,hS,h2,h3,h4⟩,h5⟩:=h;obtain⟨css,e1,e2,e3,e4,e5⟩:=RowsAt.flat (fun r' hr=>ho r' (List.mem_cons_of_mem _ hr)) h5;refine⟨cs :: css,by simp[e1],fun c hc=>?_,fun u hu=>?_,fun b' o' hp j u hj=>?_,fun j hj hj'=>?_⟩
  ·rcases List.mem_cons.1 hc with e|e
   ·rw[e];exact h2.1
   ·exact e2 c e
  ·rw[List.flatMap_cons] at hu;rcases List.mem_append.1 hu with e|e
   ·exact AtL.cells1 (ho r (List.mem_cons_self ..)) h4 u e
   ·exact e3 u e
  ·rw[h1] at hp;cases hp;rw[List.flatMap_cons] at hj;by_cases hlt:j<cs.length
   ·rw[List.getElem?_append_left (by simpa using hlt)] at hj;exact h3 j u hj
   ·rw[List.getElem?_append_right (by simpa using hlt)] at hj;have:=e4 _ _ h1 (j-cs.length) u hj;have h2':=h2.1
    rwa [show o+(off+sz)+(j-cs.length)=o+off+j by omega] at this
  ·match j,hj,hj' with
   | 0,_,_=>exact h4
   | j+1,hj,hj'=>exact e5 j (by simpa using hj) (by simpa using hj')
end M
def zfJ (S:Nat->Prop)(w:World)(e:TypeId)(sz:Nat)(rows:List (List M))(en:Ending)(w':World):Prop:=
 ∃q c css,en=.returned (.slice q rows.length c)/\M.Grow e sz w' w.heap.size (.slice q rows.length c) rows css/\(∀j (h:j<rows.length) (h':j<css.length),M.AtL S w' rows[j] css[j])/\Below w.heap.size w w'
theorem zm9 {S:Nat->Prop}{w w':World}{e:TypeId}{sz:Nat}{rows:List (List M)}{css:List (List Value)}{v:Value}(hl:css.length=rows.length)(he:∀cs ∈ css,cs.length=sz)(hr:∀j (h:j<rows.length) (h':j<css.length),M.AtL S w rows[j] css[j])
  (hown:w'.ownsRow w.heap.size e sz v rows.length (css.flatMap id)) (hb:Below w.heap.size w w'):zfJ S w e sz rows (.returned v) w':=by
 have hB:∀j (h:j<rows.length) (h':j<css.length),M.AtL (fun b=>b<w.heap.size) w' rows[j] css[j]:=fun j h h'=>(hr j h h').bound.below hb;have hS:∀j (h:j<rows.length) (h':j<css.length),M.AtL S w' rows[j] css[j]:=fun j h h'=>(hr j h h').below hb;rcases hown.2 with⟨e1,hn⟩|⟨g,c,cur,e1,hg,hrest⟩
 ·have h0:rows=[]:=List.eq_nil_of_length_eq_zero hn;subst h0;have h1:css=[]:=List.eq_nil_of_length_eq_zero hl;subst h1;rw[e1];exact⟨none,0,[],rfl,M.Grow.nil _ _ _ _,fun j h=>absurd h (Nat.not_lt_zero _),hb⟩
 ·subst e1;refine⟨_,c,css,rfl,⟨hown,hl,he,fun j h h'=>(hB j h h').mono fun b hlt e2=>?_⟩,hS,hb⟩;simp only[Value.ownBlock,Option.some.injEq] at e2;omega
theorem zg9 (n:Nat):∀(l:List (List Value)) (hl:∀a ∈ l,a.length=n),(l.flatMap id).length=l.length*n
 | [],_=>by simp
 | a :: l,hl=>by
  rw[List.flatMap_cons,List.length_append,zg9 n l (fun x hx=>hl x (List.mem_cons_of_mem _ hx)),List.length_cons,Nat.add_mul,Nat.one_mul,Nat.add_comm]
  congr 1
  exact hl a (List.mem_cons_self ..)
theorem zh6 {S:Nat->Prop}{w:World}{e:TypeId}{sz:Nat}{rows:List (List M)}{p:Option Addr}{cap:Nat}(h:M.At S w (.many sz rows) (.slice p rows.length cap))(ho:∀r ∈ rows,∀m ∈ r,m.one'=true) :
  ∃xs:List Value,xs.length=rows.length*sz/\(∀u ∈ xs,u.oneCell'=true)/\(∀a,p=some a->∀j u,xs[j]?=some u->w.cell? (a.add j)=some u)/\(p=none->rows=[]/\xs=[]) /\
   ∀(v:Value) (w':World),w'.ownsRow w.heap.size e sz v rows.length xs->Below w.heap.size w w'->zfJ S w e sz rows (.returned v) w':=by
 obtain⟨p',cap',e',h1,h2⟩:=M.At.slice h;simp only[Value.slice.injEq] at e';obtain⟨rfl,-,rfl⟩:=e';obtain⟨css,e1,e2,e3,e4,e5⟩:=M.RowsAt.flat ho h2;refine⟨css.flatMap id,by rw[zg9 sz css e2,e1],e3,fun a ha j u hj=>?_,fun hp=>?_,fun v w' hown hb=>zm9 e1 e2 e5 hown hb⟩
 ·have hlt:j<rows.length*sz:=by
   have:=(List.getElem?_eq_some_iff.1 hj).1
   rwa [zg9 sz css e2,e1] at this
  have h0:0<rows.length:=by
   rcases Nat.eq_zero_or_pos rows.length with h0|h0
   ·rw[h0,Nat.zero_mul] at hlt;omega
   ·exact h0
  obtain⟨b,o,_,hp,_⟩:=M.At.get h 0 h0;rw[hp] at ha;cases ha;have:=e4 b o hp j u hj;rw[Addr.add_lit];exact this
 ·have h0:rows=[]:=by
   rcases Nat.eq_zero_or_pos rows.length with h0|h0
   ·exact List.eq_nil_of_length_eq_zero h0
   ·obtain⟨b,o,_,e,_⟩:=M.At.get h 0 h0;rw[hp] at e;cases e
  refine⟨h0,?_⟩;rw[h0] at e1;rw[List.eq_nil_of_length_eq_zero e1];rfl
theorem zjU {S T:Nat->Prop}{e:TypeId}{sz:Nat}(hsz:0<sz){W:World}{base:Nat}{p:Option Addr}{n cap:Nat}{rows:List (List M)}{css:List (List Value)}(h:M.Grow e sz W base (.slice p n cap) rows css)(hr:∀j (h:j<rows.length) (h':j<css.length),M.AtL S W rows[j] css[j])
  (hST:∀b,S b->T b) (hB:∀b,base<=b->T b):M.At T W (.many sz rows) (.slice p n cap):=by
 obtain⟨hn,h1,h2⟩:=h.room;subst hn;refine M.At.of ⟨h1,h2⟩ (M.RowsAt.mk hsz fun i hi=>?_);rcases h.own.2 with⟨e,hn⟩|⟨g,c,cur,e,hbg,_⟩
 ·omega
 ·cases e;have hi':i<css.length:=by rw[h.len];exact hi
  refine⟨g,0,css[i],rfl,hB g hbg,h.each _ (List.getElem_mem hi'),fun j u hj=>?_,(hr i hi hi').mono hST⟩;have hj':j<sz:=by
   have:=(List.getElem?_eq_some_iff.1 hj).1
   rwa [h.each _ (List.getElem_mem hi')] at this
  have h3:=h.own.cells (g:=g) rfl (i*sz+j) u (by rw[zej sz css h.each i hi' j hj'];exact hj);rw[Addr.add_lit] at h3;simpa using h3
theorem zqb:Tryz.prog.underlying 44=some (.slice 58):=by kernel_rfl
theorem zkP:∃i z,Tryz.prog.info? 58=some i/\i.zero=some z/\i.size=1/\i.bytes=24/\z.cells.size=1:=⟨_,_,rfl,rfl,rfl,rfl,rfl⟩
theorem zkr {S:Nat->Prop}{w:World}{l:List ByteArray}{p:Option Addr}{cap:Nat}(h:M.At S w (zeu l) (.slice p l.length cap))(hl:l.length<=100) :
  Calls Tryz.prog 53 #[.slice p l.length cap] w (zfJ S w 58 1 (l.map fun s=>[zby s])):=by
 obtain⟨i0,z0,hi,hz0,hsz,hby,hzc⟩:=zkP;have hnil:=Lib.run_eql_slice_nil (P:=Tryz.prog) w 44 58 p l.length cap 0 0 zqb;obtain⟨-,-,hcap⟩:=zam h;have hll:(l.map fun s=>[zby s]).length=l.length:=List.length_map _;obtain⟨xs,h1,h2,h3,h4,h5⟩:=zh6 (e:=58) (rows:=l.map fun s=>[zby s]) (by rw[hll];exact h) (by simp[M.one',zby]);rw[hll] at h1 h5;have H1:=zh h1;have H2:=zh h2;have H3:=zh h3;have H4:=zh h4;have H5:=zh h5;have HL:=zh hll;unfold maxLen at hcap;clear h h1 h2 h3 h4 h5 hll;cases p with
 | none=>
  go_in
  go_wp2_with fail;go_ret;have h0:l.length=0:=by rw[<-HL.o,(H4.o (by trivial)).1];rfl
  exact H5.o _ _ (by rw[h0,(H4.o (by trivial)).2];exact World.ownsRow_nil _ _ _ _) (Below.refl _ _)
 | some a=>
  go_in
  go_wp2_with (at_builtin;refine wpList_append_own_at _ rfl _ _ 44 rfl w.heap.size 58 i0 z0 1 24 zqb hi hz0 hsz hby hzc (by decide) _ 0 [] rfl ?e2 a l.length cap xs rfl ?e4 ?e5 H2.o (by unfold maxLen;omega) (by omega) ?e9 ?_)
  case e2=>exact World.ownsRow_made w #[] 0 (Nat.le_refl _) (by unfold maxLen;omega) rfl
  case e4=>exact H1.o
  case e5=>
   intro j u hj;exact zaa ((Below.refl _ w).alloc (Nat.le_refl _) _) (H3.o a rfl j u hj)
  case e9=>simp
  intro v' w1 hown hgrow hnil hat;have HO:=zh hown;have HG:=zh hgrow;clear hown hgrow hnil hat;go_wp2_with fail;go_ret;exact H5.o _ _ (by simpa using HO.o) (((Below.refl _ w).alloc (Nat.le_refl _) _).grown HG.o (by simp) (fun k e=>by simp[Value.ownBlock] at e;omega))
mutual
def fdR:Fd->List M
 | .mk nm nl k wd id ix kids=>[.one (.string nm),.one (.bool nl),.one (.int .i64 k),.one (.int .i64 wd),.one (.int .i64 id),.one (.int .i64 ix),.many 7 (fdL kids)]
def fdL:List Fd->List (List M)
 | []=>[]
 | f :: r=>fdR f :: fdL r
end
theorem zha:∀l:List Fd,fdL l=l.map fdR
 | []=>rfl
 | f :: r=>by rw[fdL,zha r];rfl
theorem zkQ (f:Fd):fdR f=[.one (.string f.nm),.one (.bool f.nl),.one (.int .i64 f.k),.one (.int .i64 f.wd),.one (.int .i64 f.id),.one (.int .i64 f.ix),.many 7 (f.kids.map fdR)]:=by
 cases f with
 | mk nm nl k wd id ix kids=>rw[fdR,zha];rfl
inductive FdOk:Fd->Prop
 | mk {f:Fd}:f.nm.size<=maxLen->zah f.k/\zah f.wd/\zah f.id/\zah f.ix->(∀g ∈ f.kids,FdOk g)->FdOk f
theorem FdOk.nm {f:Fd}(h:FdOk f):f.nm.size<=maxLen:=by cases h;assumption
theorem FdOk.nums {f:Fd}(h:FdOk f):zah f.k/\zah f.wd/\zah f.id/\zah f.ix:=by cases h;assumption
theorem FdOk.kids {f:Fd}(h:FdOk f):∀g ∈ f.kids,FdOk g:=by cases h;assumption
mutual
theorem FdAt.toM {w:World}:∀ {f:Fd} {cs:List Value},FdAt w f cs->FdOk f/\M.AtL (fun _=>True) w (fdR f) cs
 | .mk nm nl k wd id ix kids,cs,h=>by
  simp only[FdAt] at h;obtain⟨h0,h1,h2,h3,h4,p,cap,h5,h6,h7,h8⟩:=h;obtain⟨g1,g2⟩:=FdsC.toM h8;have hl:(fdL kids).length=kids.length:=by rw[zha,List.length_map]
  refine⟨.mk h0 ⟨h1,h2,h3,h4⟩ g1,?_⟩;rw[h5,fdR];refine M.AtL.cons M.At.one (M.AtL.cons M.At.one (M.AtL.cons M.At.one (M.AtL.cons M.At.one (M.AtL.cons M.At.one (M.AtL.cons M.At.one (M.AtL.cons ?_ M.AtL.nil))))));rw[<-hl];exact M.At.of (by rw[hl];exact⟨h6,h7⟩) g2
theorem FdsC.toM {w:World}{p:Option Addr}:∀ {l:List Fd} {off:Nat},FdsC w p off l->(∀g ∈ l,FdOk g)/\M.RowsAt (fun _=>True) w p 7 off (fdL l)
 | [],off,h=>by rw[fdL];exact⟨(fun _ h=>by cases h),by simp only[M.RowsAt]⟩
 | f :: r,off,h=>by
  simp only[FdsC] at h;obtain⟨⟨b,o,cs,h1,h2,h3⟩,h4⟩:=h;obtain⟨g1,g2⟩:=FdAt.toM h3;obtain⟨g3,g4⟩:=FdsC.toM h4;obtain⟨_,_,hcs,_⟩:=h3.shape;refine⟨fun g hg=>?_,?_⟩
  ·rcases List.mem_cons.1 hg with e|e
   ·rw[e];exact g1
   ·exact g3 g e
  ·rw[fdL];simp only[M.RowsAt];exact⟨⟨b,o,cs,h1,trivial,⟨by rw[hcs];rfl,by decide⟩,h2,g2⟩,g4⟩
end
mutual
theorem FdAt.ofM {S:Nat->Prop}{w:World}:∀ {f:Fd} {cs:List Value},FdOk f->M.AtL S w (fdR f) cs->FdAt w f cs
 | .mk nm nl k wd id ix kids,cs,hok,h=>by
  rw[fdR] at h;obtain⟨_,rfl,h1⟩:=M.AtL.one h;obtain⟨_,rfl,h2⟩:=M.AtL.one h1;obtain⟨_,rfl,h3⟩:=M.AtL.one h2;obtain⟨_,rfl,h4⟩:=M.AtL.one h3;obtain⟨_,rfl,h5⟩:=M.AtL.one h4;obtain⟨_,rfl,h6⟩:=M.AtL.one h5;obtain⟨p,cap,_,rfl,h7,h8⟩:=M.AtL.many h6;cases M.AtL.end h8;obtain⟨_,_,e,hr,hrows⟩:=M.At.slice h7;cases e;have hl:(fdL kids).length=kids.length:=by rw[zha,List.length_map]
  rw[hl] at hr ⊢;simp only[FdAt];exact⟨hok.nm,hok.nums.1,hok.nums.2.1,hok.nums.2.2.1,hok.nums.2.2.2,p,cap,rfl,hr.1,hr.2,FdsC.ofM hok.kids hrows⟩
theorem FdsC.ofM {S:Nat->Prop}{w:World}{p:Option Addr}:∀ {l:List Fd} {off:Nat},(∀g ∈ l,FdOk g)->M.RowsAt S w p 7 off (fdL l)->FdsC w p off l
 | [],off,_,h=>by simp only[FdsC]
 | f :: r,off,hok,h=>by
  rw[fdL] at h;simp only[M.RowsAt] at h;obtain⟨⟨b,o,cs,h1,hS,h2,h3,h4⟩,h5⟩:=h;simp only[FdsC];exact⟨⟨b,o,cs,h1,h3,FdAt.ofM (hok f (List.mem_cons_self ..)) h4⟩,FdsC.ofM (fun g hg=>hok g (List.mem_cons_of_mem _ hg)) h5⟩
end
theorem zks {S:Nat->Prop}{w:World}{l:List Fd}{p:Option Addr}{cap:Nat}(h:M.At S w (.many 7 (l.map fdR)) (.slice p l.length cap))(hl:l.length<=100) :
  Calls Tryz.prog 52 #[.slice p l.length cap] w (zfJ S w 26 7 (l.map fdR)):=by
 obtain⟨i0,z0,hi,hz0,hzc,hsz,hby⟩:=zet;have hnil:=Lib.run_eql_slice_nil (P:=Tryz.prog) w 22 26 p l.length cap 0 0 zfH;obtain⟨-,-,hcap⟩:=zam h;have hll:(l.map fdR).length=l.length:=List.length_map _;obtain⟨xs,h1,h2,h3,h4,h5⟩:=zh6 (e:=26) (rows:=l.map fdR) (by rw[hll];exact h) (by simp[zkQ,M.one',Value.oneCell']);rw[hll] at h1 h5;have H1:=zh h1;have H2:=zh h2;have H3:=zh h3;have H4:=zh h4;have H5:=zh h5;have HL:=zh hll;unfold maxLen at hcap;clear h h1 h2 h3 h4 h5 hll;cases p with
 | none=>
  go_in
  go_wp2_with fail;go_ret;have h0:l.length=0:=by rw[<-HL.o,(H4.o (by trivial)).1];rfl
  exact H5.o _ _ (by rw[h0,(H4.o (by trivial)).2];exact World.ownsRow_nil _ _ _ _) (Below.refl _ _)
 | some a=>
  go_in
  go_wp2_with (at_builtin;refine wpList_append_own_at _ rfl _ _ 22 rfl w.heap.size 26 i0 z0 7 80 zfH hi hz0 hsz hby hzc (by decide) _ 0 [] rfl ?e2 a l.length cap xs rfl ?e4 ?e5 H2.o (by unfold maxLen;omega) (by omega) ?e9 ?_)
  case e2=>exact World.ownsRow_made w #[] 0 (Nat.le_refl _) (by unfold maxLen;omega) rfl
  case e4=>exact H1.o
  case e5=>
   intro j u hj;exact zaa ((Below.refl _ w).alloc (Nat.le_refl _) _) (H3.o a rfl j u hj)
  case e9=>simp
  intro v' w1 hown hgrow hnil hat;have HO:=zh hown;have HG:=zh hgrow;clear hown hgrow hnil hat;go_wp2_with fail;go_ret;exact H5.o _ _ (by simpa using HO.o) (((Below.refl _ w).alloc (Nat.le_refl _) _).grown HG.o (by simp) (fun k e=>by simp[Value.ownBlock] at e;omega))
end Go.Fld
namespace Go.Fld
open Go Go.RowKit Go.Proofs Go.ChangeShapes Go.WideShapes Go.ChangeAt Go.Shelf Go.Fld.Late
def zfu (W:World)(b o:Nat)(c0 c1 c2 c3 c4 c5 c6:Value):World:=
 ((((((W.setCell ⟨b,o,none⟩ c0).setCell ⟨b,o+1,none⟩ c1).setCell ⟨b,o+2,none⟩ c2).setCell ⟨b,o+3,none⟩ c3).setCell ⟨b,o+4,none⟩ c4).setCell ⟨b,o+5,none⟩ c5).setCell ⟨b,o+6,none⟩ c6
def zjv (l:List Value)(o:Nat)(c0 c1 c2 c3 c4 c5 c6:Value):List Value:=((((((l.set o c0).set (o+1) c1).set (o+2) c2).set (o+3) c3).set (o+4) c4).set (o+5) c5).set (o+6) c6
theorem zpn {W:World}{b o:Nat}{t:TypeId}{l:List Value}(h:BoxN W b t l)(c0 c1 c2 c3 c4 c5 c6:Value):BoxN (zfu W b o c0 c1 c2 c3 c4 c5 c6) b t (zjv l o c0 c1 c2 c3 c4 c5 c6):=
 ((((((h.set o c0).set (o+1) c1).set (o+2) c2).set (o+3) c3).set (o+4) c4).set (o+5) c5).set (o+6) c6
theorem zgm {W:World}{b o k:Nat}(hk:k≠b)(c0 c1 c2 c3 c4 c5 c6:Value):(zfu W b o c0 c1 c2 c3 c4 c5 c6).heap[k]?=W.heap[k]?:=by
 unfold zfu;rw[Below.heap_setCell _ _ _ k hk,Below.heap_setCell _ _ _ k hk,Below.heap_setCell _ _ _ k hk,Below.heap_setCell _ _ _ k hk,Below.heap_setCell _ _ _ k hk,Below.heap_setCell _ _ _ k hk,Below.heap_setCell _ _ _ k hk]
theorem zna {W w:World}{n b o:Nat}(h:Below n w W)(hn:n<=b)(c0 c1 c2 c3 c4 c5 c6:Value):Below n w (zfu W b o c0 c1 c2 c3 c4 c5 c6):=
 ((((((h.setCell (p:=⟨b,o,none⟩) hn c0).setCell (p:=⟨b,o+1,none⟩) hn c1).setCell (p:=⟨b,o+2,none⟩) hn c2).setCell (p:=⟨b,o+3,none⟩) hn c3).setCell (p:=⟨b,o+4,none⟩) hn c4).setCell (p:=⟨b,o+5,none⟩) hn c5).setCell (p:=⟨b,o+6,none⟩) hn c6
theorem zpo {l:List Value}{o j:Nat}(h:j<o\/o+7<=j)(c0 c1 c2 c3 c4 c5 c6:Value):(zjv l o c0 c1 c2 c3 c4 c5 c6)[j]?=l[j]?:=by
 unfold zjv;rw[List.getElem?_set_ne (by omega),List.getElem?_set_ne (by omega),List.getElem?_set_ne (by omega),List.getElem?_set_ne (by omega),List.getElem?_set_ne (by omega),List.getElem?_set_ne (by omega),List.getElem?_set_ne (by omega)]
theorem zqq {l:List Value}{o:Nat}(h:o+7<=l.length)(c0 c1 c2 c3 c4 c5 c6:Value):∀(i:Nat) (u:Value),[c0,c1,c2,c3,c4,c5,c6][i]?=some u->(zjv l o c0 c1 c2 c3 c4 c5 c6)[o+i]?=some u:=by
 intro i u hi;unfold zjv
 match i,hi with
 | 0,hi=>cases hi;simp[List.getElem?_set];omega
 | 1,hi=>cases hi;simp[List.getElem?_set];omega
 | 2,hi=>cases hi;simp[List.getElem?_set];omega
 | 3,hi=>cases hi;simp[List.getElem?_set];omega
 | 4,hi=>cases hi;simp[List.getElem?_set];omega
 | 5,hi=>cases hi;simp[List.getElem?_set];omega
 | 6,hi=>cases hi;simp[List.getElem?_set];omega
def RowsIn (T:Nat->Nat->Prop)(W:World)(g:Nat)(rows:List (List M)):Prop:=∃cur,BoxN W g 26 cur/\rows.length*7<=cur.length/\∀j (h:j<rows.length),∃cs,cs.length=7/\(∀i u,cs[i]?=some u->cur[j*7+i]?=some u)/\M.AtL (fun b=>T j b/\b≠g) W rows[j] cs
theorem RowsIn.below {T:Nat->Nat->Prop}{W W':World}{g:Nat}{rows:List (List M)}(h:RowsIn T W g rows)(hb:Below W.heap.size W W'):RowsIn T W' g rows:=by
 obtain⟨cur,h1,h2,h3⟩:=h;refine⟨cur,h1.below hb h1.lt,h2,fun j hj=>?_⟩;obtain⟨cs,e1,e2,e3⟩:=h3 j hj;exact⟨cs,e1,e2,e3.below hb⟩
theorem RowsIn.put {T T':Nat->Nat->Prop}{W:World}{g:Nat}{rows:List (List M)}(h:RowsIn T W g rows){k:Nat}(hk:k<rows.length)(hT:∀j b,j≠k->T j b->T' j b){c0 c1 c2 c3 c4 c5 c6:Value}(hr:M.AtL (fun b=>T' k b/\b≠g) W rows[k] [c0,c1,c2,c3,c4,c5,c6]):RowsIn T' (zfu W g (k*7) c0 c1 c2 c3 c4 c5 c6) g rows:=by
 obtain⟨cur,h1,h2,h3⟩:=h;have keep:∀ {S:Nat->Prop} {r:List M} {cs:List Value},M.AtL (fun b=>S b/\b≠g) W r cs->M.AtL (fun b=>S b/\b≠g) (zfu W g (k*7) c0 c1 c2 c3 c4 c5 c6) r cs:=fun hh=>hh.keep fun b hs _=>⟨zgm hs.2 c0 c1 c2 c3 c4 c5 c6,hs⟩;refine⟨_,zpn h1 c0 c1 c2 c3 c4 c5 c6,by unfold zjv;simpa using h2,fun j hj=>?_⟩;by_cases e:j=k
 ·subst e;exact⟨[c0,c1,c2,c3,c4,c5,c6],rfl,fun i u hi=>zqq (by omega) c0 c1 c2 c3 c4 c5 c6 i u hi,keep hr⟩
 ·obtain⟨cs,e1,e2,e3⟩:=h3 j hj;refine⟨cs,e1,fun i u hi=>?_,keep (e3.mono fun b hb=>⟨hT j b e hb.1,hb.2⟩)⟩;have hi7:i<7:=by
   have:=(List.getElem?_eq_some_iff.1 hi).1;omega
  rw[zpo (by omega)];exact e2 i u hi
theorem RowsIn.list {T:Nat->Nat->Prop}{S:Nat->Prop}{W:World}{g n c:Nat}{rows:List (List M)}(h:RowsIn T W g rows)(hn:n=rows.length)(hc:n<=c/\c<=maxLen)(hS:S g)(hT:∀j b,j<n->T j b->S b):M.At S W (.many 7 rows) (.slice (some ⟨g,0,none⟩) n c):=by
 subst hn;obtain⟨cur,h1,h2,h3⟩:=h;refine M.At.of hc (M.RowsAt.mk (by decide) fun i hi=>?_);obtain⟨cs,e1,e2,e3⟩:=h3 i hi;refine⟨g,0,cs,rfl,hS,e1,fun j u hj=>?_,e3.mono fun b hb=>hT i b hi hb.1⟩;have:=h1.row _ _ (e2 j u hj)
 rwa [show 0+(0+i*7)+j=i*7+j by omega]
theorem RowsIn.of {T:Nat->Nat->Prop}{S:Nat->Prop}{W:World}{base g n c:Nat}{rows:List (List M)}{css:List (List Value)}(h:M.Grow 26 7 W base (.slice (some ⟨g,0,none⟩) n c) rows css)(hs:∀j (h:j<rows.length) (h':j<css.length),M.AtL S W rows[j] css[j])(hT:∀j b,S b->T j b)(hS:∀b,S b->b<base):RowsIn T W g rows/\base<=g:=by
 rcases h.own.2 with⟨e,_⟩|⟨g',c',cur,e,hb,hh,h1,h2,h3,h4⟩
 ·cases e
 ·cases e;refine⟨⟨cur.toList,by unfold BoxN;rw[hh],by simp only[Array.length_toList];rw[h3];exact Nat.mul_le_mul_right 7 h1,fun j hj=>?_⟩,hb⟩;have hj':j<css.length:=by rw[h.len];exact hj
  refine⟨css[j],h.each _ (List.getElem_mem hj'),fun i u hi=>?_,(hs j hj hj').mono fun b hb'=>⟨hT j b hb',by have:=hS b hb';omega⟩⟩;have hi7:i<7:=by
   have:=(List.getElem?_eq_some_iff.1 hi).1
   rwa [h.each _ (List.getElem_mem hj')] at this
  have h5:=zej 7 css h.each j hj' i hi7;rw[hi,<-h4] at h5;rw[List.getElem?_take] at h5;split at h5
  ·exact h5
  ·cases h5
theorem RowsIn.other {T:Nat->Nat->Prop}{W:World}{g:Nat}{rows:List (List M)}(h:RowsIn T W g rows){a:Addr}(hg:g≠a.block)(hT:∀j b,T j b->b≠a.block)(v:Value):RowsIn T (W.setCell a v) g rows:=by
 obtain⟨cur,h1,h2,h3⟩:=h;refine⟨cur,h1.other hg v,h2,fun j hj=>?_⟩;obtain⟨cs,e1,e2,e3⟩:=h3 j hj;exact⟨cs,e1,e2,e3.keep fun b hs _=>⟨Below.heap_setCell _ _ _ b (hT j b hs.1),hs⟩⟩
theorem RowsIn.cells {T:Nat->Nat->Prop}{W:World}{g:Nat}{rows:List (List M)}(h:RowsIn T W g rows)(k:Nat)(hk:k<rows.length):∃cs,cs.length=7/\(∀i u,cs[i]?=some u->W.cell? ⟨g,k*7+i,none⟩=some u)/\M.AtL (fun _=>True) W rows[k] cs:=by
 obtain⟨cur,h1,h2,h3⟩:=h;obtain⟨cs,e1,e2,e3⟩:=h3 k hk;exact⟨cs,e1,fun i u hi=>h1.row _ _ (e2 i u hi),e3.mono fun _ _=>trivial⟩
theorem RowsIn.frozen {T:Nat->Nat->Prop}{W:World}{g:Nat}{rows:List (List M)}(h:RowsIn T W g rows)(i:Nat):W.frozen? ⟨g,i,none⟩=false:=by
 obtain⟨cur,h1,_⟩:=h;exact h1.frozen i
theorem RowsIn.lt {T:Nat->Nat->Prop}{W:World}{g:Nat}{rows:List (List M)}(h:RowsIn T W g rows):g<W.heap.size:=by
 obtain⟨cur,h1,_⟩:=h;exact h1.lt
theorem zkR {S:Nat->Prop}{w:World}{f:Fd}{cs:List Value}(h:M.AtL S w (fdR f) cs):∃p c,cs=[.string f.nm,.bool f.nl,.int .i64 f.k,.int .i64 f.wd,.int .i64 f.id,.int .i64 f.ix,.slice p f.kids.length c]/\M.At S w (.many 7 (f.kids.map fdR)) (.slice p f.kids.length c):=by
 rw[zkQ] at h;obtain⟨_,rfl,h1⟩:=M.AtL.one h;obtain⟨_,rfl,h2⟩:=M.AtL.one h1;obtain⟨_,rfl,h3⟩:=M.AtL.one h2;obtain⟨_,rfl,h4⟩:=M.AtL.one h3;obtain⟨_,rfl,h5⟩:=M.AtL.one h4;obtain⟨_,rfl,h6⟩:=M.AtL.one h5;obtain⟨p,cap,_,rfl,h7,h8⟩:=M.AtL.many h6;cases M.AtL.end h8;rw[List.length_map] at h7 ⊢;exact⟨p,cap,rfl,h7⟩
theorem zqr {S:Nat->Prop}{w:World}{f:Fd}{p:Option Addr}{c:Nat}(h:M.At S w (.many 7 (f.kids.map fdR)) (.slice p f.kids.length c)):M.AtL S w (fdR f) (f7 f p c):=by
 rw[zkQ];exact M.AtL.cons M.At.one (M.AtL.cons M.At.one (M.AtL.cons M.At.one (M.AtL.cons M.At.one (M.AtL.cons M.At.one (M.AtL.cons M.At.one (M.AtL.cons h M.AtL.nil))))))
def ziU (w:World)(f:Fd)(e:Ending)(w':World):Prop:=∃p c,e=.returned (.agg #[.string f.nm,.bool f.nl,.int .i64 f.k,.int .i64 f.wd,.int .i64 f.id,.int .i64 f.ix,.slice p f.kids.length c]) /\
 M.AtL (fun b=>w.heap.size<=b) w' (fdR f) (f7 f p c)/\Below w.heap.size w w'
theorem zqs {fn:Func}{i:Nat}(hfn:fn.results=#[.cell i 26]){w W:World}{rb:Nat}{g:Fd}{p:Option Addr}{cap:Nat}(hbx:BoxN W rb 26 (f7 g p cap))
  (hg:M.AtL (fun b=>w.heap.size<=b) W (fdR g) (f7 g p cap)) (hB:Below w.heap.size w W)
  {tmps:Array Value} (ht:tmps.getD i undef=.pointer (some ⟨rb,0,none⟩)):bodyPost Tryz.prog fn (ziU w g) Exit.ret { tmps:=tmps,defers:=[] } W:=
 bodyPost_ret (ziT hfn ht hbx.row) rfl ⟨p,cap,rfl,hg,hB⟩
theorem zqt {w:World}{f:Fd}{cs:List Value}(hf:M.AtL (fun _=>True) w (fdR f) cs)(hsm:f.kids.length<=100)
  (ih:∀g ∈ f.kids,∀(w:World) (cs:List Value),M.AtL (fun _=>True) w (fdR g) cs->Calls Tryz.prog 36 #[.agg cs.toArray] w (ziU w g)) :
  Calls Tryz.prog 36 #[.agg cs.toArray] w (ziU w f):=by
 obtain⟨p,cap,rfl,hk⟩:=zkR hf;have HK:=zh hk;have HI:=zh ih;have HSM:=zh hsm;clear hf hk ih;obtain⟨W1,hW,a1,a2,hBW⟩:=zbt w 26 (f7 f p cap) 26 [Value.string ⟨#[]⟩,.bool false,.int .i64 0,.int .i64 0,.int .i64 0,.int .i64 0,.slice none 0 0];have hs1:W1.heap.size=w.heap.size+1+1:=by rw[hW,World.size_alloc,World.size_alloc]
 have HW:=zh hW;have A1:=zh a1;have A2:=zh a2;have HBW:=zh hBW;have HS1:=zh hs1;have q6:=a1.row 6 _ rfl;clear hW a1 a2 hBW hs1
 go_in
 go_wp2_with fail;rw[<-HW.o];clear HW;refine(zks (S:=fun b=>b<w.heap.size) ((M.At.keep (fun b hs hlt=>⟨rfl,hlt⟩) HK.o).below HBW.o) HSM.o).mono ?_;rintro e W2 ⟨q,c,css,rfl,hg,hs,hb⟩;rw[List.length_map] at *;have HG:=zh hg;have HGS:=zh hs;have HB2:=zh (HBW.o.trans (hb.mono HBW.o.size));have b1:=A1.o.below hb A1.o.lt;have b2:=A2.o.below hb A2.o.lt;have z6:=b1.frozen 6;have y6:=b1.row 6 _ rfl;have hlt1:=b1.lt;have B1:=zh b1;have B2:=zh b2;have HBS:=zh hb.size;clear hg hb b1 b2 hs;obtain⟨N,hN⟩:=nm (w.heap.size);obtain⟨V,hV⟩:=nm (W2.setCell ⟨w.heap.size,6,none⟩ (.slice q f.kids.length c));have v1:BoxN V w.heap.size 26 (f7 f q c):=by rw[hV];exact B1.o.set 6 _
 have v2:BoxN V (w.heap.size+1) 26 [Value.string ⟨#[]⟩,.bool false,.int .i64 0,.int .i64 0,.int .i64 0,.int .i64 0,.slice none 0 0]:=by rw[hV];exact B2.o.other (by show w.heap.size+1≠w.heap.size;omega) _
 have hVB:Below w.heap.size w V:=by rw[hV];exact HB2.o.setCell (p:=⟨w.heap.size,6,none⟩) (Nat.le_refl _) _
 have hrooms:f.kids.length<=c/\c<=maxLen:=by have:=HG.o.room;rw[List.length_map] at this;exact this.2
 have hVR:∀g,q=some ⟨g,0,none⟩->RowsIn (fun j b=>(0<=j/\b<w.heap.size)\/w.heap.size+2<=b) V g (f.kids.map fdR)/\w.heap.size+2<=g:=fun g e=>by
  subst e;obtain⟨r1,r2⟩:=RowsIn.of (T:=fun j b=>(0<=j/\b<w.heap.size)\/w.heap.size+2<=b) HG.o HGS.o (fun j b hb=>.inl ⟨Nat.zero_le _,hb⟩) (fun b hb=>by have:=HS1.o;omega);have:=HS1.o;refine⟨?_,by omega⟩;rw[hV];exact r1.other (by show g≠w.heap.size;omega) (fun j b hb=>by show b≠w.heap.size;omega) _
 have hq:f.kids.length=0\/∃g,q=some ⟨g,0,none⟩:=by
  rcases HG.o.own.2 with⟨e,hn⟩|⟨g,_,_,e,_⟩
  ·rw[List.length_map] at hn;exact .inl hn
  ·simp only[Value.slice.injEq] at e;exact .inr ⟨g,e.1⟩
 have V1:=zh v1;have V2:=zh v2;have HVB:=zh hVB;have HVR:=zh hVR;have HQ:=zh hq;have HV:=zh hV;have HRM:=zh hrooms;have u6:=v1.row 6 _ rfl;clear hV v1 v2 hVB hVR hq hN hrooms;go_wp2_with fail;rw[<-HV.o];clear HV y6 z6 q6 hlt1
 go_loopw [14] (fun i wr=>∃k:Nat,k<=f.kids.length/\i=.int .i64 k/\Hid (Below w.heap.size w wr)/\Hid (BoxN wr w.heap.size 26 (f7 f q c))/\Hid (BoxN wr (w.heap.size+1) 26 [Value.string ⟨#[]⟩,.bool false,.int .i64 0,.int .i64 0,.int .i64 0,.int .i64 0,.slice none 0 0])/\Hid (∀g,q=some ⟨g,0,none⟩->RowsIn (fun j b=>(k<=j/\b<w.heap.size)\/w.heap.size+2<=b) wr g (f.kids.map fdR)/\w.heap.size+2<=g)) (fun i _=>f.kids.length-(intOf i).toNat)
 case atStart=>exact⟨0,by omega,rfl,HVB,V1,V2,HVR⟩
 case round=>
  obtain⟨k,hk,rfl,HB,R1,R2,HR⟩:=hrel;by_cases hlt:k<f.kids.length
  ·obtain⟨g,hg⟩:∃g,q=some ⟨g,0,none⟩:=by
    rcases HQ.o with h|h
    ·omega
    ·exact h
   have HR':=HR.o g hg;subst hg;obtain⟨cs,hcs,hce,hrow⟩:=HR'.1.cells k (by rw[List.length_map];exact hlt);simp only[List.getElem_map] at hrow;obtain⟨p1,c1,rfl,-⟩:=zkR hrow;have HIG:=zh (HI.o f.kids[k] (List.getElem_mem hlt));have HROW:=zh hrow;have HRR:=zh HR';have HG0:=zh (show f.kids[k]=f.kids[k] from rfl);have x0:=hce 0 _ rfl;have x1:=hce 1 _ rfl;have x2:=hce 2 _ rfl;have x3:=hce 3 _ rfl;have x4:=hce 4 _ rfl;have x5:=hce 5 _ rfl;have x6:=hce 6 _ rfl;rw[Nat.add_zero] at x0;have hs0:wr.drew.cell? ⟨w.heap.size,6,none⟩=some (.slice (some ⟨g,0,none⟩) f.kids.length c):=R1.o.row 6 _ rfl;have HS0:=zh hs0;have hc1:=HRM.o;unfold maxLen at hc1;obtain⟨hc1,hc2⟩:=hc1;have hgl:=HR'.1.lt;have HKD:Hid (∃kd,kd=f.kids[k]):=zh ⟨_,rfl⟩;generalize hkd:f.kids[k]=kd at *;have HKE:=zh hkd;clear hkd HR' hcs hce hrow hs0 HKD HG0;go_wp2_with fail;refine Late.region (fun w'=>w'.cell? ⟨w.heap.size,6,none⟩=some (.slice (some ⟨g,0,none⟩) f.kids.length c)) (fun _=>false) (by kernel_rfl) ?_;refine Late.ta (i:=0) (v:=?_) ?_ HS0.o ?_;rotate_left
   ·intro w' hS;go_simp;rfl
   refine Late.ta (i:=1) (v:=?_) ?_ HS0.o ?_;rotate_left
   ·intro w' hS;go_simp;rfl
   refine Late.ta (i:=2) (v:=?_) ?_ HS0.o ?_;rotate_left
   ·intro w' hS;go_simp;rfl
   refine Late.ta (i:=3) (v:=?_) ?_ HS0.o ?_;rotate_left
   ·intro w' hS;go_simp;rfl
   refine Late.ta (i:=4) (v:=?_) ?_ HS0.o ?_;rotate_left
   ·intro w' hS;go_simp;rfl
   refine Late.ta (i:=5) (v:=?_) ?_ HS0.o ?_;rotate_left
   ·intro w' hS;go_simp;rfl
   refine Late.ta (i:=6) (v:=?_) ?_ HS0.o ?_;rotate_left
   ·intro w' hS;go_simp;rfl
   refine Late.ta (i:=7) (v:=?_) ?_ HS0.o ?_;rotate_left
   ·intro w' hS;go_simp;rfl
   refine Late.ta (i:=8) (v:=?_) ?_ HS0.o ?_;rotate_left
   ·intro w' hS;go_simp;rfl
   refine Late.on (i:=9) fun K hK=>?_;go_simp;refine hK _ _ (fun _=>HS0.o) ?_;clear hK K;refine Late.on (i:=10) fun K hK=>?_;go_simp;refine(HIG.o wr.drew _ (HROW.o.below (zaf (Below.refl _ wr)))).mono ?_;rintro e W4 ⟨p2,c2,rfl,hfd,hb4⟩;have HB4:=zh hb4;have HFD:=zh hfd;have hs4:W4.cell? ⟨w.heap.size,6,none⟩=some (.slice (some ⟨g,0,none⟩) f.kids.length c):=zaa hb4 HS0.o;have HS4:=zh hs4;have r4:=HRR.o.1.below (show Below wr.heap.size wr W4 from(zaf (Below.refl _ wr)).trans (hb4.mono (Nat.le_refl _)));have R4:=zh r4;have zz0:=r4.frozen (k*7);have zz1:=r4.frozen (k*7+1);have zz2:=r4.frozen (k*7+2);have zz3:=r4.frozen (k*7+3);have zz4:=r4.frozen (k*7+4);have zz5:=r4.frozen (k*7+5);have zz6:=r4.frozen (k*7+6);obtain⟨cs4,hcs4,hce4,-⟩:=r4.cells k (by rw[List.length_map];exact hlt);have d0:=hce4 0 cs4[0] (by rw[List.getElem?_eq_getElem]);have d1:=hce4 1 cs4[1] (by rw[List.getElem?_eq_getElem]);have d2:=hce4 2 cs4[2] (by rw[List.getElem?_eq_getElem]);have d3:=hce4 3 cs4[3] (by rw[List.getElem?_eq_getElem]);have d4:=hce4 4 cs4[4] (by rw[List.getElem?_eq_getElem]);have d5:=hce4 5 cs4[5] (by rw[List.getElem?_eq_getElem]);have d6:=hce4 6 cs4[6] (by rw[List.getElem?_eq_getElem]);rw[Nat.add_zero] at d0;have hsz4:wr.heap.size<=W4.heap.size:=hb4.size;clear hb4 hfd hs4 r4 hce4 x0 x1 x2 x3 x4 x5 x6;refine hK _ _ (fun _=>HS4.o) ?_;clear hK K;refine Late.on (i:=11) fun K hK=>?_;go_simp;refine hK _ _ (fun _=>HS4.o) ?_;clear hK K;refine Late.on (i:=12) fun K hK=>?_;go_simp;have hbn:=HBS.o;have hn1:=HS1.o;have hgn:=HRR.o.2;have hne:w.heap.size≠g:=by omega
   have hne1:w.heap.size+1≠g:=by omega
   have e1:Below w.heap.size w (zfu W4 g (k*7) (.string kd.nm) (.bool kd.nl) (.int .i64 kd.k) (.int .i64 kd.wd) (.int .i64 kd.id) (.int .i64 kd.ix) (.slice p2 kd.kids.length c2)):=zna ((HB.o.trans ((zaf (Below.refl _ wr)).mono HB.o.size)).trans (HB4.o.mono HB.o.size)) (by omega) _ _ _ _ _ _ _;have e2:BoxN (zfu W4 g (k*7) (.string kd.nm) (.bool kd.nl) (.int .i64 kd.k) (.int .i64 kd.wd) (.int .i64 kd.id) (.int .i64 kd.ix) (.slice p2 kd.kids.length c2)) w.heap.size 26 [.string f.nm,.bool f.nl,.int .i64 f.k,.int .i64 f.wd,.int .i64 f.id,.int .i64 f.ix,.slice (some ⟨g,0,none⟩) f.kids.length c]:=(zgm hne _ _ _ _ _ _ _).trans (R1.o.below (show Below wr.heap.size wr W4 from(zaf (Below.refl _ wr)).trans (HB4.o.mono (Nat.le_refl _))) R1.o.lt);have e3:BoxN (zfu W4 g (k*7) (.string kd.nm) (.bool kd.nl) (.int .i64 kd.k) (.int .i64 kd.wd) (.int .i64 kd.id) (.int .i64 kd.ix) (.slice p2 kd.kids.length c2)) (w.heap.size+1) 26 [Value.string ⟨#[]⟩,.bool false,.int .i64 0,.int .i64 0,.int .i64 0,.int .i64 0,.slice none 0 0]:=(zgm hne1 _ _ _ _ _ _ _).trans (R2.o.below (show Below wr.heap.size wr W4 from(zaf (Below.refl _ wr)).trans (HB4.o.mono (Nat.le_refl _))) R2.o.lt);have e4:RowsIn (fun j b=>(k+1<=j/\b<w.heap.size)\/w.heap.size+2<=b) (zfu W4 g (k*7) (.string kd.nm) (.bool kd.nl) (.int .i64 kd.k) (.int .i64 kd.wd) (.int .i64 kd.id) (.int .i64 kd.ix) (.slice p2 kd.kids.length c2)) g (f.kids.map fdR):=by
    refine R4.o.put (by rw[List.length_map];exact hlt) (fun j b hj hb=>?_) ?_
    ·rcases hb with h|h
     ·exact .inl ⟨by omega,h.2⟩
     ·exact .inr h
    ·simp only[List.getElem_map];rw[HKE.o];exact HFD.o.mono fun b hb=>by
      have hb':wr.heap.size<=b:=hb;have:=HB.o.size;have:=R2.o.lt;exact⟨.inr (by omega),by omega⟩
   have hs5:=e2.row 6 _ rfl;have E1:=zh e1;have E2:=zh e2;have E3:=zh e3;have E4:=zh (fun g' (e:some (⟨g,0,none⟩:Addr)=some ⟨g',0,none⟩)=>show RowsIn (fun j b=>(k+1<=j/\b<w.heap.size)\/w.heap.size+2<=b) (zfu W4 g (k*7) (.string kd.nm) (.bool kd.nl) (.int .i64 kd.k) (.int .i64 kd.wd) (.int .i64 kd.id) (.int .i64 kd.ix) (.slice p2 kd.kids.length c2)) g' (f.kids.map fdR)/\w.heap.size+2<=g' from by cases e;exact⟨e4,hgn⟩);clear e1 e2 e3 e4;refine hK _ _ (fun _=>hs5) ?_;clear hK K hs5;refine Late.done (by kernel_rfl) ?_ _;go_wp2_with fail;go_roundw
   case rel=>exact⟨k+1,by omega,by go_num,E1,E2,E3,E4⟩
   case measure=>simp[intOf];omega
  ·have HL:=zh (show k=f.kids.length by omega);obtain⟨l0,l1,l2,l3,l4,l5,l6⟩:=rr7 R1.o.row;obtain⟨m0,m1,m2,m3,m4,m5,m6⟩:=rr7 R2.o.row;obtain⟨z0,z1,z2,z3,z4,z5,z6⟩:=ff7 R2.o;have hrl:=R2.o.lt;have HAT:Hid (M.At (fun b=>w.heap.size+2<=b) wr (.many 7 (f.kids.map fdR)) (.slice q f.kids.length c)):=zh (by
    rcases HQ.o with h|⟨g,hg⟩
    ·have h0:f.kids=[]:=List.eq_nil_of_length_eq_zero h;rw[h0];exact M.At.of ⟨by simp,HRM.o.2⟩ (by simp only[List.map_nil,M.RowsAt])
    ·have h2:=HR.o g hg;rw[hg];exact h2.1.list (by rw[List.length_map]) HRM.o h2.2 (fun j b hj hb=>by have:=HL.o;show w.heap.size+2<=b;omega))
   go_wp2_with fail;refine zqs (i:=2) rfl (za0 rfl R2.o _ _ _ _ _ _ _) (zqr (HAT.o.keep fun b hs hlt=>⟨zfj (by have hs':w.heap.size+2<=b:=hs;omega) _ _ _ _ _ _ _,(by have hs':w.heap.size+2<=b:=hs;omega)⟩)) (zaI HB.o (by omega) _ _ _ _ _ _ _) rfl
inductive FdFew:Fd->Prop
 | mk {f:Fd}:f.kids.length<=100->(∀g ∈ f.kids,FdFew g)->FdFew f
theorem zpp {f:Fd}(h:FdFew f):∀(w:World) (cs:List Value),M.AtL (fun _=>True) w (fdR f) cs->Calls Tryz.prog 36 #[.agg cs.toArray] w (ziU w f):=by
 induction h with
 | mk hl _ ih=>exact fun w cs hf=>zqt hf hl ih
end Go.Fld
namespace Go.Fld
open Go Go.RowKit Go.Proofs Go.ChangeShapes Go.WideShapes Go.ChangeAt Go.Shelf
inductive Vl where
 | mk (nl:Bool) (num:Int) (tx:ByteArray) (kids:List Vl)
namespace Vl
def nl:Vl->Bool|mk a _ _ _=>a
def num:Vl->Int|mk _ a _ _=>a
def tx:Vl->ByteArray|mk _ _ a _=>a
def kids:Vl->List Vl|mk _ _ _ a=>a
end Vl
abbrev v4 (v:Vl)(p:Option Addr)(c:Nat):List Value:=[.bool v.nl,.int .i64 v.num,.string v.tx,.slice p v.kids.length c]
mutual
def vlR:Vl->List M
 | .mk nl num tx kids=>[.one (.bool nl),.one (.int .i64 num),.one (.string tx),.many 4 (vlL kids)]
def vlL:List Vl->List (List M)
 | []=>[]
 | v :: r=>vlR v :: vlL r
end
theorem zoc:∀l:List Vl,vlL l=l.map vlR
 | []=>rfl
 | v :: r=>by rw[vlL,zoc r];rfl
theorem zod (v:Vl):vlR v=[.one (.bool v.nl),.one (.int .i64 v.num),.one (.string v.tx),.many 4 (v.kids.map vlR)]:=by
 cases v with
 | mk nl num tx kids=>rw[vlR,zoc];rfl
def VAt (S:Nat->Prop)(w:World)(v:Vl)(cs:List Value):Prop:=M.AtL S w (vlR v) cs
theorem VAt.below {S:Nat->Prop}{w w':World}{v:Vl}{cs:List Value}(h:VAt S w v cs)(hb:Below w.heap.size w w'):VAt S w' v cs:=M.AtL.below hb h
theorem VAt.keep {S T:Nat->Prop}{w w':World}(hk:∀b,S b->b<w.heap.size->w'.heap[b]?=w.heap[b]?/\T b){v:Vl}{cs:List Value}(h:VAt S w v cs):VAt T w' v cs:=M.AtL.keep hk h
theorem VAt.mono {S T:Nat->Prop}{w:World}(hST:∀b,S b->T b){v:Vl}{cs:List Value}(h:VAt S w v cs):VAt T w v cs:=M.AtL.mono hST h
theorem VAt.shape {S:Nat->Prop}{w:World}{v:Vl}{cs:List Value}(h:VAt S w v cs):∃p cap,cs=[.bool v.nl,.int .i64 v.num,.string v.tx,.slice p v.kids.length cap]/\M.At S w (.many 4 (v.kids.map vlR)) (.slice p v.kids.length cap):=by
 unfold VAt at h;rw[zod] at h;obtain⟨_,rfl,h1⟩:=M.AtL.one h;obtain⟨_,rfl,h2⟩:=M.AtL.one h1;obtain⟨_,rfl,h3⟩:=M.AtL.one h2;obtain⟨p,c,_,rfl,hb,h4⟩:=M.AtL.many h3;cases M.AtL.end h4;simp only[List.length_map] at hb ⊢;exact⟨p,c,rfl,hb⟩
theorem VAt.make {S:Nat->Prop}{w:World}(nl:Bool)(num:Int)(tx:ByteArray)(kids:List Vl){p:Option Addr}{n cap:Nat}(h:M.At S w (.many 4 (kids.map vlR)) (.slice p n cap)):VAt S w (.mk nl num tx kids) [.bool nl,.int .i64 num,.string tx,.slice p n cap]:=by
 unfold VAt;rw[zod];exact M.AtL.cons M.At.one (M.AtL.cons M.At.one (M.AtL.cons M.At.one (M.AtL.cons h M.AtL.nil)))
theorem VAt.flat {S:Nat->Prop}{w:World}(nl:Bool)(num:Int)(tx:ByteArray):VAt S w (.mk nl num tx []) [.bool nl,.int .i64 num,.string tx,.slice none 0 0]:=VAt.make nl num tx [] (M.At.nil S w 4)
end Go.Fld
