import Derived.Test.YthocbeghnkacnaaGreatDoorT07
import Derived.Test.YthocbeghnkacnaaGreatDoorT08
import Derived.Deep.AppendLies
import Derived.Laws.MakeOwn
import Derived.Laws.CopyRow
import Derived.BigQuiet
set_option linter.unusedVariables false
set_option linter.unusedSimpArgs false
set_option linter.unnecessarySimpa false
set_option maxRecDepth 100000
set_option maxHeartbeats 16000000
namespace Go.Fld
open Go Go.RowKit Go.Proofs Go.ChangeShapes Go.WideShapes Go.ChangeAt Go.Shelf
mutual
def FdS (S:Nat->Prop)(w:World):Fd->List Value->Prop
 | .mk nm nl k wd id ix kids,cs=>nm.size<=maxLen/\zah k/\zah wd/\zah id/\zah ix /\
   ∃p cap,cs=[.string nm,.bool nl,.int .i64 k,.int .i64 wd,.int .i64 id,.int .i64 ix,.slice p kids.length cap]/\kids.length<=cap/\cap<=maxLen/\FdsS S w p 0 kids
def FdsS (S:Nat->Prop)(w:World)(p:Option Addr):Nat->List Fd->Prop
 | _,[]=>True
 | off,f :: r=>(∃b o cs,p=some ⟨b,o,none⟩/\S b/\(∀(j:Nat) (u:Value),cs[j]?=some u->w.cell? ⟨b,o+off+j,none⟩=some u)/\FdS S w f cs)/\FdsS S w p (off+7) r
end
mutual
theorem FdS.at {S:Nat->Prop}{w:World}:∀ {f:Fd} {cs:List Value},FdS S w f cs->FdAt w f cs
 | .mk nm nl k wd id ix kids,cs,h=>by
  simp only[FdS] at h;simp only[FdAt];obtain⟨h0,h1,h2,h3,h4,p,cap,h5,h6,h7,h8⟩:=h;exact⟨h0,h1,h2,h3,h4,p,cap,h5,h6,h7,FdsS.at h8⟩
theorem FdsS.at {S:Nat->Prop}{w:World}{p:Option Addr}:∀ {l:List Fd} {off:Nat},FdsS S w p off l->FdsC w p off l
 | [],off,h=>trivial
 | f :: r,off,h=>by
  simp only[FdsS] at h;simp only[FdsC];obtain⟨⟨b,o,cs,h1,_,h2,h3⟩,h4⟩:=h;exact⟨⟨b,o,cs,h1,h2,FdS.at h3⟩,FdsS.at h4⟩
end
mutual
theorem FdS.mono {S T:Nat->Prop}{w:World}(hST:∀b,S b->T b):∀ {f:Fd} {cs:List Value},FdS S w f cs->FdS T w f cs
 | .mk nm nl k wd id ix kids,cs,h=>by
  simp only[FdS] at h ⊢;obtain⟨h0,h1,h2,h3,h4,p,cap,h5,h6,h7,h8⟩:=h;exact⟨h0,h1,h2,h3,h4,p,cap,h5,h6,h7,FdsS.mono hST h8⟩
theorem FdsS.mono {S T:Nat->Prop}{w:World}(hST:∀b,S b->T b){p:Option Addr}:∀ {l:List Fd} {off:Nat},FdsS S w p off l->FdsS T w p off l
 | [],off,h=>trivial
 | f :: r,off,h=>by
  simp only[FdsS] at h ⊢;obtain⟨⟨b,o,cs,h1,hS,h2,h3⟩,h4⟩:=h;exact⟨⟨b,o,cs,h1,hST b hS,h2,FdS.mono hST h3⟩,FdsS.mono hST h4⟩
end
mutual
theorem FdS.keep {S T:Nat->Prop}{w w':World}(hk:∀b,S b->b<w.heap.size->w'.heap[b]?=w.heap[b]?/\T b):∀ {f:Fd} {cs:List Value},FdS S w f cs->FdS T w' f cs
 | .mk nm nl k wd id ix kids,cs,h=>by
  simp only[FdS] at h ⊢;obtain⟨h0,h1,h2,h3,h4,p,cap,h5,h6,h7,h8⟩:=h;exact⟨h0,h1,h2,h3,h4,p,cap,h5,h6,h7,FdsS.keep hk h8⟩
theorem FdsS.keep {S T:Nat->Prop}{w w':World}(hk:∀b,S b->b<w.heap.size->w'.heap[b]?=w.heap[b]?/\T b){p:Option Addr}:∀ {l:List Fd} {off:Nat},FdsS S w p off l->FdsS T w' p off l
 | [],off,h=>trivial
 | f :: r,off,h=>by
  simp only[FdsS] at h ⊢;obtain⟨⟨b,o,cs,h1,hS,h2,h3⟩,h4⟩:=h;have hb:b<w.heap.size:=by
   have h5:=(FdS.at h3).shape;obtain⟨p',cap',e,_⟩:=h5;have:=World.block_lt_of_cell? w _ (h2 0 _ (by rw[e];rfl));simpa using this
  obtain⟨e1,e2⟩:=hk b hS hb;exact⟨⟨b,o,cs,h1,e2,fun j u hj=>(World.cell?_of_block e1).trans (h2 j u hj),FdS.keep hk h3⟩,FdsS.keep hk h4⟩
end
theorem FdS.below {S:Nat->Prop}{w w':World}(hb:Below w.heap.size w w'){f:Fd}{cs:List Value}(h:FdS S w f cs):FdS S w' f cs:=h.keep (fun b hs hlt=>⟨hb.block b hlt,hs⟩)
theorem FdS.shape {S:Nat->Prop}{w:World}{f:Fd}{cs:List Value}(h:FdS S w f cs):∃p cap,cs=[.string f.nm,.bool f.nl,.int .i64 f.k,.int .i64 f.wd,.int .i64 f.id,.int .i64 f.ix,.slice p f.kids.length cap]/\FdsS S w p 0 f.kids/\f.kids.length<=cap/\cap<=maxLen:=by
 cases f with
 | mk nm nl k wd id ix kids=>
  simp only[FdS] at h;obtain⟨h0,h1,h2,h3,h4,p,cap,h5,h6,h7,h8⟩:=h;exact⟨p,cap,h5,h8,h6,h7⟩
theorem FdS.mk' {S:Nat->Prop}{w:World}{nm:ByteArray}{nl:Bool}{k wd id ix:Int}{kids:List Fd}{p:Option Addr}{cap:Nat}(h0:nm.size<=maxLen)(h1:zah k)(h2:zah wd)(h3:zah id)(h4:zah ix)(h5:kids.length<=cap)(h6:cap<=maxLen)(h7:FdsS S w p 0 kids) :
  FdS S w (.mk nm nl k wd id ix kids) [.string nm,.bool nl,.int .i64 k,.int .i64 wd,.int .i64 id,.int .i64 ix,.slice p kids.length cap]:=by
 simp only[FdS];exact⟨h0,h1,h2,h3,h4,p,cap,rfl,h5,h6,h7⟩
structure RowF (W:World)(base:Nat)(v:Value)(gs:List Fd)(css:List (List Value)):Prop where
 own:W.ownsRow base 26 7 v gs.length (css.flatMap id)
 len:css.length=gs.length
 fld:∀(j:Nat) (h:j<gs.length) (h':j<css.length),FdS (fun b=>base<=b/\v.ownBlock≠some b) W gs[j] css[j]
theorem RowF.nil (W:World)(base:Nat):RowF W base (.slice none 0 0) [] []:=⟨World.ownsRow_nil _ _ _ _,rfl,fun j h=>absurd h (Nat.not_lt_zero _)⟩
theorem RowF.seven {W:World}{base:Nat}{v:Value}{gs:List Fd}{css:List (List Value)}(h:RowF W base v gs css):∀cs ∈ css,cs.length=7:=by
 intro cs hcs;obtain⟨j,hj,rfl⟩:=List.getElem_of_mem hcs;obtain⟨p,cap,e,_⟩:=(h.fld j (by rw[<-h.len];exact hj) hj).shape;rw[e];rfl
theorem RowF.below {W W':World}{base:Nat}{v:Value}{gs:List Fd}{css:List (List Value)}(h:RowF W base v gs css)(hb:Below W.heap.size W W'):RowF W' base v gs css:=
 ⟨h.own.kept (row:=none) ⟨hb.os,hb.tape,hb.output,hb.size,fun k hk _=>hb.block k hk⟩ (by
  rcases h.own.2 with⟨e,_⟩|⟨g,c,cur,e,_⟩
  ·rw[e];exact .inl rfl
  ·rw[e];exact .inr (by simp[Value.ownBlock])),h.len,fun j h1 h2=>(h.fld j h1 h2).below hb⟩
theorem zej (n:Nat):∀(l:List (List Value)) (hl:∀a ∈ l,a.length=n) (j:Nat) (hj:j<l.length) (i:Nat),i<n->(l.flatMap id)[j*n+i]?=(l[j])[i]?
 | a :: l,hl,0,_,i,hi=>by
  simp only[List.flatMap_cons,Nat.zero_mul,Nat.zero_add,List.getElem_cons_zero,id];rw[List.getElem?_append_left (by rw[hl a (by simp)];exact hi)]
 | a :: l,hl,j+1,hj,i,hi=>by
  simp only[List.flatMap_cons,List.getElem_cons_succ,id];rw[List.getElem?_append_right (by rw[hl a (by simp),Nat.succ_mul];omega),hl a (by simp)];have:=zej n l (fun b hb=>hl b (by simp[hb])) j (by simpa using hj) i hi;rw[<-this]
  congr 1
  rw[Nat.succ_mul];omega
theorem zmJ {S:Nat->Prop}{W:World}{g:Nat}(hg:S g):∀(gs:List Fd) (css:List (List Value)) (off:Nat),css.length=gs.length->(∀(j:Nat) (h:j<gs.length) (h':j<css.length),FdS S W gs[j] css[j]) ->
  (∀(j:Nat) (h':j<css.length) (i:Nat) (u:Value),(css[j])[i]?=some u->W.cell? ⟨g,off+j*7+i,none⟩=some u)->FdsS S W (some ⟨g,0,none⟩) off gs
 | [],css,off,_,_,_=>by simp[FdsS]
 | f :: gs,[],off,hl,_,_=>by simp at hl
 | f :: gs,cs :: css,off,hl,hf,hc=>by
  simp only[FdsS];refine⟨⟨g,0,cs,rfl,hg,fun j u hj=>?_,hf 0 (by simp) (by simp)⟩,zmJ hg gs css (off+7) (by simpa using hl) (fun j h h'=>hf (j+1) (by simpa using h) (by simpa using h')) (fun j h' i u hu=>?_)⟩
  ·have:=hc 0 (by simp) j u hj
   rwa [show off+0*7+j=0+off+j by omega] at this
  ·have:=hc (j+1) (by simpa using h') i u hu
   rwa [show off+(j+1)*7+i=off+7+j*7+i by omega] at this
theorem RowF.list {W:World}{base:Nat}{p:Option Addr}{n cap:Nat}{gs:List Fd}{css:List (List Value)}(h:RowF W base (.slice p n cap) gs css):FdsS (fun b=>base<=b) W p 0 gs:=by
 rcases h.own.2 with⟨e,hn⟩|⟨g,c,cur,e,hbg,_⟩
 ·have:gs=[]:=List.eq_nil_of_length_eq_zero hn;subst this;simp[FdsS]
 ·cases e;refine zmJ (S:=fun b=>base<=b) hbg gs css 0 h.len (fun j h1 h2=>(h.fld j h1 h2).mono (fun b hb=>hb.1)) (fun j h' i u hu=>?_);have hi:i<7:=by
   have:=(List.getElem?_eq_some_iff.1 hu).1
   rwa [h.seven _ (List.getElem_mem h')] at this
  have h1:=h.own.cells (g:=g) rfl (j*7+i) u (by rw[zej 7 css h.seven j h' i hi];exact hu);rw[Addr.add_lit] at h1;simpa using h1
theorem RowF.room {W:World}{base:Nat}{p:Option Addr}{n cap:Nat}{gs:List Fd}{css:List (List Value)}(h:RowF W base (.slice p n cap) gs css):gs.length<=cap/\cap<=maxLen:=by
 rcases h.own.2 with⟨e,hn⟩|⟨g,c,cur,e,_,_,h1,h2,_⟩
 ·simp only[Value.slice.injEq] at e;obtain⟨_,_,e3⟩:=e;exact⟨by omega,by rw[e3];decide⟩
 ·cases e;exact⟨h1,h2⟩
theorem RowF.push {W W1:World}{base:Nat}{v:Value}{gs:List Fd}{css:List (List Value)}(h:RowF W base v gs css){g:Fd}{cs:List Value}(hg:FdS (fun b=>base<=b/\v.ownBlock≠some b) W g cs)
  {n:Nat} (hn:gs.length=n) {gg cap1:Nat} (hown:W1.ownsRow base 26 7 (.slice (some ⟨gg,0,none⟩) (n+1) cap1) (n+1) (css.flatMap id ++ cs)) (hgrow:W.grownBy W1 v.ownBlock) (hat:v.ownBlock=some gg\/gg=W.heap.size) :
  RowF W1 base (.slice (some ⟨gg,0,none⟩) (n+1) cap1) (gs ++ [g]) (css ++ [cs]):=by
 subst hn;have keep:∀ {f:Fd} {c:List Value},FdS (fun b=>base<=b/\v.ownBlock≠some b) W f c->FdS (fun b=>base<=b/\(Value.slice (some ⟨gg,0,none⟩) (gs.length+1) cap1).ownBlock≠some b) W1 f c:=fun hf=>hf.keep (fun b hs hlt=>by
  refine⟨hgrow.block b hlt (fun e=>hs.2 e.symm),hs.1,?_⟩;intro e;simp[Value.ownBlock] at e;rcases hat with h|h
  ·exact hs.2 (by rw[h,e])
  ·omega)
 refine⟨by rw[List.length_append,List.flatMap_append];simpa using hown,by simp[h.len],fun j h1 h2=>?_⟩;by_cases hj:j<gs.length
 ·rw[List.getElem_append_left hj,List.getElem_append_left (by rw[h.len];exact hj)];exact keep (h.fld j hj (by rw[h.len];exact hj))
 ·have e:j=gs.length:=by simp at h1;omega
  subst e;have hl:=h.len;simp only[List.getElem_append_right (Nat.le_refl _),Nat.sub_self];rw[List.getElem_append_right (by omega)];simp only[hl,Nat.sub_self,List.getElem_cons_zero];exact keep hg
def Fd.named (f:Fd)(nm:ByteArray)(nl:Bool):Fd:=.mk nm nl f.k f.wd f.id f.ix f.kids
mutual
def zax:Fd->Fd
 | .mk nm nl k wd id ix kids=>if k=19\/k=20 then(match ziP kids with | []=>.mk nm nl k wd id ix [] | g :: _=>g.named nm nl) else .mk nm nl k wd id ix (ziP kids)
def ziP:List Fd->List Fd
 | []=>[]
 | f :: r=>zax f :: ziP r
end
theorem zkJ:∀l:List Fd,ziP l=l.map zax
 | []=>rfl
 | f :: r=>by rw[ziP,zkJ r];rfl
mutual
def okF:Fd->Prop
 | .mk nm nl k wd id ix kids=>(k=19\/k=20->kids≠[])/\kids.length<=32/\okL kids
def okL:List Fd->Prop
 | []=>True
 | f :: r=>okF f/\okL r
end
mutual
theorem zg6 {P:Fd->Prop}(h:∀f:Fd,(∀g ∈ f.kids,P g)->P f):∀f:Fd,P f
 | .mk nm nl k wd id ix kids=>h _ (zmK h kids)
theorem zmK {P:Fd->Prop}(h:∀f:Fd,(∀g ∈ f.kids,P g)->P f):∀l:List Fd,∀g ∈ l,P g
 | [],g,hg=>by cases hg
 | f :: r,g,hg=>by
  rcases List.mem_cons.1 hg with e|e
  ·rw[e];exact zg6 h f
  ·exact zmK h r g e
end
theorem zeL:∀ {l:List Fd},okL l->∀f ∈ l,okF f
 | [],_,f,hf=>by cases hf
 | g :: r,h,f,hf=>by
  simp only[okL] at h;rcases List.mem_cons.1 hf with e|e
  ·rw[e];exact h.1
  ·exact zeL h.2 f e
theorem zgi {f:Fd}(h:okF f):(f.k=19\/f.k=20->f.kids≠[])/\f.kids.length<=32/\okL f.kids:=by
 cases f with
 | mk nm nl k wd id ix kids=>
  simp only[okF] at h;exact h
theorem zir (f:Fd):zax f=if f.k=19\/f.k=20 then(match f.kids.map zax with | []=>.mk f.nm f.nl f.k f.wd f.id f.ix [] | g :: _=>g.named f.nm f.nl) else .mk f.nm f.nl f.k f.wd f.id f.ix (f.kids.map zax):=by
 cases f with
 | mk nm nl k wd id ix kids=>
  rw[zax,zkJ];rfl
theorem zfT {f:Fd}(h:¬(f.k=19\/f.k=20)):zax f=.mk f.nm f.nl f.k f.wd f.id f.ix (f.kids.map zax):=by rw[zir,if_neg h]
theorem zgj {f g:Fd}{r:List Fd}(h:f.k=19\/f.k=20)(hk:f.kids=g :: r):zax f=(zax g).named f.nm f.nl:=by
 rw[zir,if_pos h,hk];rfl
theorem zn7:(Tryz.prog.info? 26).map (fun i=>(i.zero.map (fun z=>z.cells.size),i.size,i.bytes))=some (some 7,7,80):=by kernel_rfl
theorem zfH:Tryz.prog.underlying 22=some (.slice 26):=by kernel_rfl
theorem zet:∃i z,Tryz.prog.info? 26=some i/\i.zero=some z/\z.cells.size=7/\i.size=7/\i.bytes=80:=by
 obtain⟨i,hi,hzz⟩:=Option.map_eq_some_iff.1 zn7;simp only[Prod.mk.injEq] at hzz;obtain⟨h1,h2,h3⟩:=hzz;obtain⟨z,hz,hs⟩:=Option.map_eq_some_iff.1 h1;exact⟨i,z,hi,hz,hs,h2,h3⟩
def zcO (w:World)(g:Fd)(e:Ending)(w':World):Prop:=∃p cap,e=.returned (.agg #[.string g.nm,.bool g.nl,.int .i64 g.k,.int .i64 g.wd,.int .i64 g.id,.int .i64 g.ix,.slice p g.kids.length cap]) /\
 FdS (fun b=>w.heap.size<=b) w' g (f7 g p cap)/\Below w.heap.size w w'
theorem zkK {fn:Func}(hfn:fn.results=#[.cell 2 26]){W:World}{tmps:Array Value}{rb:Nat}{c0 c1 c2 c3 c4 c5 c6:Value}(ht:tmps.getD 2 undef=.pointer (some ⟨rb,0,none⟩))(hw:RowAt W rb [c0,c1,c2,c3,c4,c5,c6]) :
  (results fn tmps).run Tryz.prog W=.ok (.agg #[c0,c1,c2,c3,c4,c5,c6]) W:=by
 have h0:=hw 0 _ rfl;have h1:=hw 1 _ rfl;have h2:=hw 2 _ rfl;have h3:=hw 3 _ rfl;have h4:=hw 4 _ rfl;have h5:=hw 5 _ rfl;have h6:=hw 6 _ rfl;rw[Array.getD_eq_getD_getElem?] at ht;simp[results,hfn,go_sem,ht,h0,h1,h2,h3,h4,h5,h6]
def put7 (W:World)(rb:Nat)(c0 c1 c2 c3 c4 c5 c6:Value):World:=
 ((((((W.setCell ⟨rb,0,none⟩ c0).setCell ⟨rb,1,none⟩ c1).setCell ⟨rb,2,none⟩ c2).setCell ⟨rb,3,none⟩ c3).setCell ⟨rb,4,none⟩ c4).setCell ⟨rb,5,none⟩ c5).setCell ⟨rb,6,none⟩ c6
theorem za0 {W:World}{rb:Nat}{l:List Value}(hl:l.length=7)(h:BoxN W rb 26 l)(c0 c1 c2 c3 c4 c5 c6:Value):BoxN (put7 W rb c0 c1 c2 c3 c4 c5 c6) rb 26 [c0,c1,c2,c3,c4,c5,c6]:=by
 have b:=((((((h.set 0 c0).set 1 c1).set 2 c2).set 3 c3).set 4 c4).set 5 c5).set 6 c6
 match l,hl with
 | [_,_,_,_,_,_,_],_=>exact b
theorem zfj {W:World}{rb k:Nat}(hk:k≠rb)(c0 c1 c2 c3 c4 c5 c6:Value):(put7 W rb c0 c1 c2 c3 c4 c5 c6).heap[k]?=W.heap[k]?:=by
 unfold put7;rw[Below.heap_setCell _ _ _ k hk,Below.heap_setCell _ _ _ k hk,Below.heap_setCell _ _ _ k hk,Below.heap_setCell _ _ _ k hk,Below.heap_setCell _ _ _ k hk,Below.heap_setCell _ _ _ k hk,Below.heap_setCell _ _ _ k hk]
theorem zaI {W w:World}{n rb:Nat}(h:Below n w W)(hn:n<=rb)(c0 c1 c2 c3 c4 c5 c6:Value):Below n w (put7 W rb c0 c1 c2 c3 c4 c5 c6):=
 ((((((h.setCell (p:=⟨rb,0,none⟩) hn c0).setCell (p:=⟨rb,1,none⟩) hn c1).setCell (p:=⟨rb,2,none⟩) hn c2).setCell (p:=⟨rb,3,none⟩) hn c3).setCell (p:=⟨rb,4,none⟩) hn c4).setCell (p:=⟨rb,5,none⟩) hn c5).setCell (p:=⟨rb,6,none⟩) hn c6
theorem zgk {fn:Func}(hfn:fn.results=#[.cell 2 26]){w W:World}{rb:Nat}{l:List Value}(hl:l.length=7)(hbx:BoxN W rb 26 l)(hw:w.heap.size<=rb)(hB:Below w.heap.size w W){g:Fd}{p:Option Addr}{cap:Nat}{S:Nat->Prop}(hS:∀b,S b->rb<b)
  (hg:FdS S W g (f7 g p cap)) {tmps:Array Value} (ht:tmps.getD 2 undef=.pointer (some ⟨rb,0,none⟩)) :
  bodyPost Tryz.prog fn (zcO w g) Exit.ret { tmps:=tmps,defers:=[] } (put7 W rb (.string g.nm) (.bool g.nl) (.int .i64 g.k) (.int .i64 g.wd) (.int .i64 g.id) (.int .i64 g.ix) (.slice p g.kids.length cap)):=by
 refine bodyPost_ret (zkK hfn ht (za0 hl hbx _ _ _ _ _ _ _).row) rfl ⟨p,cap,rfl,?_,zaI hB hw _ _ _ _ _ _ _⟩;exact hg.keep (fun b hs hlt=>⟨zfj (by have:=hS b hs;omega) _ _ _ _ _ _ _,by have:=hS b hs;omega⟩)
theorem zn8 {w:World}{f:Fd}{p:Option Addr}{cap:Nat}(hf:FdAt w f (f7 f p cap))
  (hsm:f.kids.length<=1000000000000) (hne:f.k=19\/f.k=20->f.kids≠[])
  (ih:∀g ∈ f.kids,∀(w:World) (p:Option Addr) (cap:Nat),FdAt w g (f7 g p cap) ->
   Calls Tryz.prog 19 #[.agg #[.string g.nm,.bool g.nl,.int .i64 g.k,.int .i64 g.wd,.int .i64 g.id,.int .i64 g.ix,.slice p g.kids.length cap]] w (zcO w (zax g))) :
  Calls Tryz.prog 19 #[.agg #[.string f.nm,.bool f.nl,.int .i64 f.k,.int .i64 f.wd,.int .i64 f.id,.int .i64 f.ix,.slice p f.kids.length cap]] w (zcO w (zax f)):=by
 obtain⟨i1,z1,hi1,hz1,hzc1,hsz1,hby1⟩:=zet;obtain⟨p',cap',hcs,hk,hnm,ik,iw,ii,ix'⟩:=hf.shape;cases hcs;obtain⟨_,_,e,hl,hm,hC⟩:=hk;cases e;unfold maxLen at hm;have HC:=zh hC;have HI:=zh ih;clear hf ih hC
 go_in
 obtain⟨W,hW⟩:=nm (((w.alloc (.cells #[.string f.nm,.bool f.nl,.int .i64 f.k,.int .i64 f.wd,.int .i64 f.id,.int .i64 f.ix,.slice p f.kids.length cap] 26)).alloc (.cells #[.string ⟨#[]⟩,.bool false,.int .i64 0,.int .i64 0,.int .i64 0,.int .i64 0,.slice none 0 0] 26)));have a1:BoxN W w.heap.size 26 [Value.string f.nm,.bool f.nl,.int .i64 f.k,.int .i64 f.wd,.int .i64 f.id,.int .i64 f.ix,.slice p f.kids.length cap]:=by
  rw[hW];exact(BoxN.new w 26 [Value.string f.nm,.bool f.nl,.int .i64 f.k,.int .i64 f.wd,.int .i64 f.id,.int .i64 f.ix,.slice p f.kids.length cap]).alloc _
 have a2:BoxN W (w.heap.size+1) 26 [Value.string ⟨#[]⟩,.bool false,.int .i64 0,.int .i64 0,.int .i64 0,.int .i64 0,.slice none 0 0]:=by
  rw[hW];have:=BoxN.new (w.alloc (.cells #[.string f.nm,.bool f.nl,.int .i64 f.k,.int .i64 f.wd,.int .i64 f.id,.int .i64 f.ix,.slice p f.kids.length cap] 26)) 26 [Value.string ⟨#[]⟩,.bool false,.int .i64 0,.int .i64 0,.int .i64 0,.int .i64 0,.slice none 0 0]
  rwa [World.size_alloc] at this
 have hBW:Below w.heap.size w W:=by rw[hW];exact((Below.refl _ w).alloc (Nat.le_refl _) _).alloc (by simp) _
 have hWs:W.heap.size=w.heap.size+2:=by rw[hW];simp
 have A1:=zh a1;have A2:=zh a2;have HBW:=zh hBW;have HWS:=zh hWs;have HW:=zh hW;clear a1 a2 hBW hWs hW;go_wp2_with fail;rw[<-HW.o];clear HW
 go_loopw [3,11] (fun l i wr=>∃(k:Nat) (q:Option Addr) (c:Nat) (css:List (List Value)),k<=f.kids.length/\l=.slice q k c/\i=.int .i64 k/\Hid (RowF wr W.heap.size (.slice q k c) ((f.kids.take k).map zax) css)/\Hid (Below W.heap.size W wr)) (fun _ i _=>f.kids.length-(intOf i).toNat)
 case atStart=>exact⟨0,none,0,[],by omega,rfl,rfl,zh (RowF.nil _ _),zh (Below.refl _ _)⟩
 case round=>
  obtain⟨k,q,c,css,hk,rfl,rfl,HR,HB⟩:=hrel;have hbw:Below w.heap.size w wr:=HBW.o.trans (HB.o.mono HBW.o.size);have HBR:=zh hbw;have B1:=zh (A1.o.below HB.o A1.o.lt);have B2:=zh (A2.o.below HB.o A2.o.lt);have hsz:=HB.o.size;have hlt2:=B2.o.lt;by_cases hlt:k<f.kids.length
  ·obtain⟨b',o',fq,cap',rfl,e3,c0,c1,c2,c3,c4,c5,c6⟩:=HC.o.seven k hlt;have E3:=zh e3;replace c0:=zaa hbw c0;replace c1:=zaa hbw c1;replace c2:=zaa hbw c2;replace c3:=zaa hbw c3;replace c4:=zaa hbw c4;replace c5:=zaa hbw c5;replace c6:=zaa hbw c6;have HIG:=zh (HI.o f.kids[k] (List.getElem_mem hlt));have HTK:=zh (List.take_succ_eq_append_getElem hlt);clear e3 hbw;generalize hg:f.kids[k]=g at *;have HG:=zh hg;clear hg;go_wp2_with fail;obtain⟨A,hA⟩:=nm (wr.alloc (.cells #[.string g.nm,.bool g.nl,.int .i64 g.k,.int .i64 g.wd,.int .i64 g.id,.int .i64 g.ix,.slice fq g.kids.length cap'] 26));have BA:Below wr.heap.size wr A:=by rw[hA];exact(Below.refl _ wr).alloc (Nat.le_refl _) _
   rw[<-hA];clear hA;have BAw:=HBR.o.trans (BA.mono HBR.o.size);refine(HIG.o A fq cap' (E3.o.below BAw)).mono ?_;rintro e W1 ⟨p1,cap1,rfl,hfd,hb1⟩;obtain⟨gb,hgb⟩:=nm (zax g);rw[<-hgb] at hfd ⊢;have HGB:=zh hgb;clear hgb;have hb2:Below wr.heap.size wr W1:=BA.trans (hb1.mono BA.size);have hR1:=HR.o.below hb2;have htk:((f.kids.take k).map zax).length=k:=by rw[List.length_map,List.length_take];omega
   have hown1:W1.ownsRow W.heap.size 26 7 (.slice q k c) k (css.flatMap id):=by have:=hR1.own;rwa [htk] at this
   have hasz:wr.heap.size<=A.heap.size:=BA.size;have hoff:∀j,(Value.slice q k c).ownBlock=some j->j<wr.heap.size:=fun j e=>(HR.o.own.lt j e).2;have hfd1:FdS (fun b=>W.heap.size<=b/\(Value.slice q k c).ownBlock≠some b) W1 gb _:=hfd.mono (fun b hb=>⟨by omega,fun e=>by have:=hoff b e;omega⟩);have hs1:=hb2.size;have HR1:=zh hR1;have HO1:=zh hown1;have HF1:=zh hfd1;have HB2:=zh (HB.o.trans (hb2.mono hsz));have HTL:=zh htk;have hZ:=BoxN.new W1 26 [Value.string gb.nm,.bool gb.nl,.int .i64 gb.k,.int .i64 gb.wd,.int .i64 gb.id,.int .i64 gb.ix,.slice p1 gb.kids.length cap1];have HZ:=zh hZ;clear hfd hb1 hb2 hR1 hown1 hfd1 hoff hZ BA BAw htk c0 c1 c2 c3 c4 c5 c6;go_wp2_with (at_builtin;refine wpList_append_lies _ rfl _ _ 22 rfl W.heap.size 26 i1 z1 7 80 zfH hi1 hz1 hsz1 hby1 hzc1 (by decide) (.slice q k c) k (css.flatMap id) rfl (HO1.o.alloc _) ⟨W1.heap.size,0,none⟩ 1 1 [Value.string gb.nm,.bool gb.nl,.int .i64 gb.k,.int .i64 gb.wd,.int .i64 gb.id,.int .i64 gb.ix,.slice p1 gb.kids.length cap1] rfl rfl (World.news_of_block HZ.o) (by simp[Value.oneCell']) (by decide) (by unfold maxLen;omega) (by omega) (by simp;omega) (W1.heap.size+1) (by simp) ?_;intro gg cc w2 hown2 hgrow2 hat2 hlt2);refine⟨⟨k+1,some ⟨gg,0,none⟩,cc,css ++ [[Value.string gb.nm,.bool gb.nl,.int .i64 gb.k,.int .i64 gb.wd,.int .i64 gb.id,.int .i64 gb.ix,.slice p1 gb.kids.length cap1]],by omega,rfl,by go_num,zh ?_,zh ((HB2.o.alloc HB2.o.size _).grown hgrow2 (by have:=HB2.o.size;simp;omega) (fun j e=>(HO1.o.lt j e).1))⟩,by simp[intOf];omega⟩;rw[HTK.o,List.map_append,List.map_cons,List.map_nil,<-HGB.o];exact(HR1.o.below ((Below.refl _ W1).alloc (Nat.le_refl _) _)).push (HF1.o.below ((Below.refl _ W1).alloc (Nat.le_refl _) _)) HTL.o hown2 hgrow2 (by rw[World.size_alloc];exact hat2)
  ·have hkl:k=f.kids.length:=by omega
   have HKL:=zh hkl;have hR:=HR.o;rw[hkl,List.take_length] at hR;have HRL:=zh hR;have HROOM:=zh hR.room;clear hkl hbw hR;obtain⟨r0,r1,r2,r3,r4,r5,r6⟩:=rr7 B1.o.row;have x6:=B1.o.frozen 6;obtain⟨q0,q1,q2,q3,q4,q5,q6⟩:=rr7 B2.o.row;obtain⟨y0,y1,y2,y3,y4,y5,y6⟩:=ff7 B2.o;by_cases hkd:f.k=19\/f.k=20
   ·have HKD:=zh hkd;obtain⟨gk,rest,hks⟩:∃gk rest,f.kids=gk :: rest:=by
     cases h:f.kids with
     | nil=>exact absurd h (hne hkd)
     | cons gk rest=>exact⟨gk,rest,rfl⟩
    have HKS:=zh hks;have hb0:(f.kids.map zax)[0]?=some (zax gk):=by rw[hks];rfl
    have hpos:0<(f.kids.map zax).length:=by rw[hks];simp
    have hget:(f.kids.map zax)[0]'hpos=zax gk:=by
     have:=List.getElem?_eq_getElem hpos;rw[this] at hb0;exact Option.some.inj hb0
    have hl0:0<css.length:=by rw[HRL.o.len];exact hpos
    have hfd:=HRL.o.fld 0 hpos hl0;rw[hget] at hfd;obtain⟨bp,bc,hbcs,hbl,hbc,hbm⟩:=hfd.shape;obtain⟨g,rfl⟩:∃g,q=some ⟨g,0,none⟩:=by
     rcases HRL.o.own.2 with⟨e,hn⟩|⟨g,c',cur,e,_⟩
     ·omega
     ·simp only[Value.slice.injEq] at e;exact⟨g,e.1⟩
    have hgl:=HRL.o.own.lt g rfl;have hcells:∀(i:Nat) (u:Value),(css[0])[i]?=some u->wr.cell? ⟨g,i,none⟩=some u:=fun i u hu=>by
     have hi:i<7:=by
      have:=(List.getElem?_eq_some_iff.1 hu).1
      rwa [HRL.o.seven _ (List.getElem_mem hl0)] at this
     have h1:=HRL.o.own.cells (g:=g) rfl (0*7+i) u (by rw[zej 7 css HRL.o.seven 0 hl0 i hi];exact hu);rw[Addr.add_lit] at h1;simpa using h1
    rw[hbcs] at hcells hfd;have l0:=hcells 0 _ rfl;have l1:=hcells 1 _ rfl;have l2:=hcells 2 _ rfl;have l3:=hcells 3 _ rfl;have l4:=hcells 4 _ rfl;have l5:=hcells 5 _ rfl;have l6:=hcells 6 _ rfl;have HFD:=zh hfd;have hbare:=zgj hkd hks;obtain⟨gb,hgb⟩:=nm (zax gk);rw[<-hgb] at HFD hbare l0 l1 l2 l3 l4 l5 l6 hbl hbc;have HBARE:=zh hbare;have hkp:0<k:=by rw[HKL.o,hks];simp
    have hkc:k<=c:=by have:=HROOM.o.1;rw[List.length_map] at this;rw[HKL.o];exact this
    have hcm2:c<=9223372036854775807:=HROOM.o.2;obtain⟨hgl1,hgl2⟩:=hgl;clear hb0 hpos hget hfd hbcs hcells hbare hgb hks hne hl0;rcases hkd with hK|hK <;>
    (rw[hK] at r2
     clear hK;go_wp2_with fail;have hC:=BoxN.new wr 26 [Value.string gb.nm,.bool gb.nl,.int .i64 gb.k,.int .i64 gb.wd,.int .i64 gb.id,.int .i64 gb.ix,.slice bp gb.kids.length bc];obtain⟨A,hA⟩:=nm (wr.alloc (.cells #[.string gb.nm,.bool gb.nl,.int .i64 gb.k,.int .i64 gb.wd,.int .i64 gb.id,.int .i64 gb.ix,.slice bp gb.kids.length bc] 26));have hC:BoxN A wr.heap.size 26 [Value.string gb.nm,.bool gb.nl,.int .i64 gb.k,.int .i64 gb.wd,.int .i64 gb.id,.int .i64 gb.ix,.slice bp gb.kids.length bc]:=by rw[hA];exact hC
     have hBA:Below wr.heap.size wr A:=by rw[hA];exact(Below.refl _ wr).alloc (Nat.le_refl _) _
     rw[<-hA];clear hA;have CB:=zh hC;have D1:=zh (B1.o.below hBA B1.o.lt);have D2:=zh (B2.o.below hBA B2.o.lt);have HBA:=zh hBA;have HFA:=zh (HFD.o.below hBA);have s0:(A.drew.cell? ⟨w.heap.size,0,none⟩=some (.string f.nm))/\(A.drew.cell? ⟨w.heap.size,1,none⟩=some (.bool f.nl)):=⟨D1.o.row 0 _ rfl,D1.o.row 1 _ rfl⟩;have HS0:=zh s0;have k0:A.drew.cell? ⟨wr.heap.size,0,none⟩=some (.string gb.nm):=CB.o.row 0 _ rfl;have k1:A.drew.cell? ⟨wr.heap.size,1,none⟩=some (.bool gb.nl):=CB.o.row 1 _ rfl;have z0:A.drew.frozen? ⟨wr.heap.size,0,none⟩=false:=CB.o.frozen 0;have zz1:A.frozen? ⟨wr.heap.size,1,none⟩=false:=CB.o.frozen 1;clear s0 hC hBA l0 l1 l2 l3 l4 l5 l6 r0 r1 r2 r3 r4 r5 r6 x6 q0 q1 q2 q3 q4 q5 q6 y0 y1 y2 y3 y4 y5 y6;refine Late.region (fun w'=>(w'.cell? ⟨w.heap.size,0,none⟩=some (.string f.nm))/\(w'.cell? ⟨w.heap.size,1,none⟩=some (.bool f.nl))) (fun _=>false) (by kernel_rfl) ?_;refine Late.ta (i:=0) (v:=?_) ?_ HS0.o ?_;rotate_left
     ·intro w' hS;obtain⟨s1,s2⟩:=hS;go_simp;rfl
     refine Late.ta (i:=1) (v:=?_) ?_ HS0.o ?_;rotate_left
     ·intro w' hS;obtain⟨s1,s2⟩:=hS;go_simp;rfl
     refine Late.ta (i:=2) (v:=?_) ?_ HS0.o ?_;rotate_left
     ·intro w' hS;obtain⟨s1,s2⟩:=hS;go_simp;rfl
     refine Late.ta (i:=3) (v:=?_) ?_ HS0.o ?_;rotate_left
     ·intro w' hS;obtain⟨s1,s2⟩:=hS;go_simp;rfl
     refine Late.ta (i:=4) (v:=?_) ?_ HS0.o ?_;rotate_left
     ·intro w' hS;obtain⟨s1,s2⟩:=hS;go_simp;rfl
     refine Late.on (i:=5) fun K hK=>?_;go_simp;have hE1:(A.setCell ⟨wr.heap.size,0,none⟩ (.string f.nm)).drew.cell? ⟨w.heap.size,0,none⟩=some (.string f.nm)/\(A.setCell ⟨wr.heap.size,0,none⟩ (.string f.nm)).drew.cell? ⟨w.heap.size,1,none⟩=some (.bool f.nl):=by
      have hd:=D1.o.other (a:=⟨wr.heap.size,0,none⟩) (by simp;omega) (.string f.nm);exact⟨hd.row 0 _ rfl,hd.row 1 _ rfl⟩
     refine hK _ _ (fun _=>hE1) ?_;clear hK K;refine Late.on (i:=6) fun K hK=>?_;go_simp;refine hK _ _ (fun _=>hE1) ?_;clear hK K;have k1':(A.setCell ⟨wr.heap.size,0,none⟩ (.string f.nm)).drew.cell? ⟨wr.heap.size,1,none⟩=some (.bool gb.nl):=(CB.o.set 0 (.string f.nm)).row 1 _ rfl;refine Late.on (i:=7) fun K hK=>?_;go_simp;have hE2:((A.setCell ⟨wr.heap.size,0,none⟩ (.string f.nm)).setCell ⟨wr.heap.size,1,none⟩ (.bool f.nl)).drew.cell? ⟨w.heap.size,0,none⟩=some (.string f.nm)/\((A.setCell ⟨wr.heap.size,0,none⟩ (.string f.nm)).setCell ⟨wr.heap.size,1,none⟩ (.bool f.nl)).drew.cell? ⟨w.heap.size,1,none⟩=some (.bool f.nl):=by
      have hd:=(D1.o.other (a:=⟨wr.heap.size,0,none⟩) (by simp;omega) (.string f.nm)).other (a:=⟨wr.heap.size,1,none⟩) (by simp;omega) (.bool f.nl);exact⟨hd.row 0 _ rfl,hd.row 1 _ rfl⟩
     refine hK _ _ (fun _=>hE2) ?_;clear hK K;refine Late.done (by kernel_rfl) ?_ _;clear hE1 hE2 k0 k1 k1' z0 zz1;have HCE:=zh ((CB.o.set 0 (.string f.nm)).set 1 (.bool f.nl));have HDE:=zh ((D2.o.other (a:=⟨wr.heap.size,0,none⟩) (by simp;omega) (.string f.nm)).other (a:=⟨wr.heap.size,1,none⟩) (by simp;omega) (.bool f.nl));obtain⟨E2,hE2⟩:=nm (((A.setCell ⟨wr.heap.size,0,none⟩ (.string f.nm)).setCell ⟨wr.heap.size,1,none⟩ (.bool f.nl)).drew);have hC2:BoxN E2 wr.heap.size 26 [Value.string f.nm,.bool f.nl,.int .i64 gb.k,.int .i64 gb.wd,.int .i64 gb.id,.int .i64 gb.ix,.slice bp gb.kids.length bc]:=by rw[hE2];exact HCE.o
     have hD2:BoxN E2 (w.heap.size+1) 26 [Value.string ⟨#[]⟩,.bool false,.int .i64 0,.int .i64 0,.int .i64 0,.int .i64 0,.slice none 0 0]:=by rw[hE2];exact HDE.o
     have hB2:Below w.heap.size w E2:=by
      rw[hE2];exact zaf (((HBR.o.trans (HBA.o.mono HBR.o.size)).setCell (p:=⟨wr.heap.size,0,none⟩) (by have:=HBR.o.size;show w.heap.size<=wr.heap.size;omega) _).setCell (p:=⟨wr.heap.size,1,none⟩) (by have:=HBR.o.size;show w.heap.size<=wr.heap.size;omega) _)
     have hF2:FdS (fun b=>W.heap.size<=b) E2 (gb.named f.nm f.nl) [Value.string f.nm,.bool f.nl,.int .i64 gb.k,.int .i64 gb.wd,.int .i64 gb.id,.int .i64 gb.ix,.slice bp gb.kids.length bc]:=by
      rw[hE2];have h1:FdS (fun b=>W.heap.size<=b/\b<wr.heap.size) A (gb.named f.nm f.nl) [Value.string f.nm,.bool f.nl,.int .i64 gb.k,.int .i64 gb.wd,.int .i64 gb.id,.int .i64 gb.ix,.slice bp gb.kids.length bc]:=by
       have h2:FdS (fun b=>W.heap.size<=b/\b<wr.heap.size) A gb [Value.string gb.nm,.bool gb.nl,.int .i64 gb.k,.int .i64 gb.wd,.int .i64 gb.id,.int .i64 gb.ix,.slice bp gb.kids.length bc]:=
        HFD.o.keep (fun b hs hlt=>⟨HBA.o.block b hlt,hs.1,hlt⟩)
       cases gb with
       | mk nm nl fk wd id ix kids=>
        simp only[FdS] at h2;obtain⟨_,j1,j2,j3,j4,p9,c9,e9,h9⟩:=h2;simp only[Fd.named,FdS];refine⟨hnm,j1,j2,j3,j4,p9,c9,?_,h9⟩;simp only[List.cons.injEq] at e9 ⊢;exact⟨trivial,trivial,trivial,trivial,trivial,trivial,e9.2.2.2.2.2.2⟩
      exact h1.keep (fun b hs hlt=>⟨by
       show((A.setCell ⟨wr.heap.size,0,none⟩ (.string f.nm)).setCell ⟨wr.heap.size,1,none⟩ (.bool f.nl)).heap[b]?=_;rw[Below.heap_setCell _ _ _ b (by show b≠wr.heap.size;omega),Below.heap_setCell _ _ _ b (by show b≠wr.heap.size;omega)],hs.1⟩)
     rw[<-hE2];have C2:=zh hC2;have D2:=zh hD2;have HB2:=zh hB2;have HF2:=zh hF2;clear hE2 hC2 hD2 hB2 hF2 HCE HDE;obtain⟨r0,r1,r2,r3,r4,r5,r6⟩:=rr7 C2.o.row;obtain⟨q0,q1,q2,q3,q4,q5,q6⟩:=rr7 D2.o.row;obtain⟨y0,y1,y2,y3,y4,y5,y6⟩:=ff7 D2.o;have hl2:=D2.o.lt;have hl3:=C2.o.lt;go_wp2_with fail;rw[HBARE.o];exact zgk (fn:=Tryz.f19) (g:=gb.named f.nm f.nl) (p:=bp) (cap:=bc) rfl (l:=[_,_,_,_,_,_,_]) rfl D2.o (by omega) HB2.o (S:=fun b=>W.heap.size<=b) (fun b hb=>by have:=HWS.o;omega) HF2.o rfl)
   ·have n19:(f.k == 19)=false:=by
     rw[beq_eq_false_iff_ne];exact fun e=>hkd (.inl e)
    have n20:(f.k == 20)=false:=by
     rw[beq_eq_false_iff_ne];exact fun e=>hkd (.inr e)
    have HKD:=zh hkd;clear hkd;go_wp2_with fail;have hlist:=HRL.o.list;obtain⟨hkc,hcm⟩:=HROOM.o;rw[HKL.o,zfT HKD.o];have hbl:(f.kids.map zax).length=f.kids.length:=List.length_map ..;generalize f.kids.map zax=bs at *;rw[<-hbl];have h1:=FdS.mk' (nl:=f.nl) hnm ik iw ii ix' (kids:=bs) (p:=q) (cap:=c) hkc hcm hlist;have hF:FdS (fun b=>W.heap.size<=b) (wr.setCell ⟨w.heap.size,6,none⟩ (.slice q bs.length c)) (.mk f.nm f.nl f.k f.wd f.id f.ix bs) [.string f.nm,.bool f.nl,.int .i64 f.k,.int .i64 f.wd,.int .i64 f.id,.int .i64 f.ix,.slice q bs.length c]:=
     h1.keep (fun b hs hlt=>⟨Below.heap_setCell _ _ _ b (by have:=HWS.o;show b≠w.heap.size;omega),hs⟩)
    exact zgk (fn:=Tryz.f19) (g:=.mk f.nm f.nl f.k f.wd f.id f.ix bs) (p:=q) (cap:=c) rfl (l:=[_,_,_,_,_,_,_]) rfl (B2.o.other (a:=⟨w.heap.size,6,none⟩) (by simp) (.slice q bs.length c)) (by omega) (HBR.o.setCell (p:=⟨w.heap.size,6,none⟩) (Nat.le_refl _) _) (S:=fun b=>W.heap.size<=b) (fun b hb=>by have:=HWS.o;omega) hF rfl
theorem ziQ (f:Fd)(ho:okF f):∀(w:World) (p:Option Addr) (cap:Nat),FdAt w f (f7 f p cap) ->
  Calls Tryz.prog 19 #[.agg #[.string f.nm,.bool f.nl,.int .i64 f.k,.int .i64 f.wd,.int .i64 f.id,.int .i64 f.ix,.slice p f.kids.length cap]] w (zcO w (zax f)):=by
 revert ho
 refine zg6 (P:=fun f=>okF f->∀(w:World) (p:Option Addr) (cap:Nat),FdAt w f (f7 f p cap) ->
  Calls Tryz.prog 19 #[.agg #[.string f.nm,.bool f.nl,.int .i64 f.k,.int .i64 f.wd,.int .i64 f.id,.int .i64 f.ix,.slice p f.kids.length cap]] w (zcO w (zax f))) (fun f ih ho w p cap hf=>?_) f
 obtain⟨hne,hk,hl⟩:=zgi ho;exact zn8 hf (by omega) hne (fun g hg w p cap=>ih g hg (zeL hl g hg) w p cap)
theorem FdAt.named {w:World}{g:Fd}{p:Option Addr}{cap:Nat}(h:FdAt w g (f7 g p cap)){nm:ByteArray}(hn:nm.size<=maxLen)(nl:Bool) :
  FdAt w (g.named nm nl) [.string nm,.bool nl,.int .i64 g.k,.int .i64 g.wd,.int .i64 g.id,.int .i64 g.ix,.slice p g.kids.length cap]:=by
 cases g with
 | mk nm' nl' fk wd id ix kids=>
  simp only[FdAt] at h;obtain⟨_,j1,j2,j3,j4,p9,c9,e9,h9⟩:=h;simp only[Fd.named,FdAt];refine⟨hn,j1,j2,j3,j4,p9,c9,?_,h9⟩;simp only[List.cons.injEq] at e9 ⊢;exact⟨trivial,trivial,trivial,trivial,trivial,trivial,e9.2.2.2.2.2.2⟩
end Go.Fld
namespace Go.Fld.Late
open Go
section
variable {P:Program} {ops:Array Oper} {Q:Exit->Act->World->Prop} {md:Region.Mode} {S:World->Prop} {late:Nat->Bool}
theorem two {i k:Nat}{oi ok:Oper}{fuel:Nat}{listed:Array Bool}{a:Act}{w:World}(hr:Region.ready md ops listed=[i,k])(hi:ops[i]?=some oi)(hk:ops[k]?=some ok)
  (h1:∀K:Act->World->Prop,(∀a' w',(late i=false->S w')->AnyL P md ops Q S late fuel (listed.setIfInBounds i true) a' w'->K a' w') ->
   if Region.wanted oi (yielded ops a.tmps)=true then Oper.wp P oi a w K Q else K (a.put oi.dst undef) w)
  (h2:∀K:Act->World->Prop,(∀a' w',(late k=false->S w')->AnyL P md ops Q S late fuel (listed.setIfInBounds k true) a' w'->K a' w') ->
   if Region.wanted ok (yielded ops a.tmps)=true then Oper.wp P ok a w K Q else K (a.put ok.dst undef) w):AnyL P md ops Q S late (fuel+1) listed a w:=by
 refine⟨fun h0=>(by rw[h0] at hr;cases hr),fun j hj=>?_⟩;rw[hr] at hj;have hj':j=i\/j=k:=by simpa using hj
 unfold wpOp;rcases hj' with rfl|rfl
 ·simp only[hi];have g:=h1 (fun a' w'=>(late j=false->S w')/\AnyL P md ops Q S late fuel (listed.setIfInBounds j true) a' w') (fun a' w' g1 g2=>⟨g1,g2⟩);split
  ·rename_i hw;rw[if_pos hw] at g;exact .inl g
  ·rename_i hw;rw[if_neg hw] at g;exact g
 ·simp only[hk];have g:=h2 (fun a' w'=>(late j=false->S w')/\AnyL P md ops Q S late fuel (listed.setIfInBounds j true) a' w') (fun a' w' g1 g2=>⟨g1,g2⟩);split
  ·rename_i hw;rw[if_pos hw] at g;exact .inl g
  ·rename_i hw;rw[if_neg hw] at g;exact g
end
end Go.Fld.Late
namespace Go.Fld
open Go Go.RowKit Go.Proofs Go.ChangeShapes Go.WideShapes Go.ChangeAt Go.Shelf
theorem zdo {n:Node}{a:Nat}{ids:List Int}(h:za7 n a ids=0):n.d<=64/\zdw n.f.nm=true/\zaU n.f=true:=by
 unfold za7 at h;by_cases h1:64<n.d
 ·rw[if_pos h1] at h;cases h
 rw[if_neg h1] at h;by_cases h2:256<=a
 ·rw[if_pos h2] at h;cases h
 rw[if_neg h2] at h;by_cases h3:zdw n.f.nm=false
 ·rw[if_pos h3] at h;cases h
 rw[if_neg h3] at h;by_cases h4:(n.ahead.any fun g=>g.nm.toList == n.f.nm.toList)=true
 ·rw[if_pos h4] at h;cases h
 rw[if_neg h4] at h;by_cases h5:zaU n.f=false
 ·rw[if_pos h5] at h;cases h
 exact⟨by omega,by simpa using h3,by simpa using h5⟩
theorem zdP:∀ {l:List Node} {a:Nat} {ids:List Int},zbm a ids l=0->∀n ∈ l,∃a' ids',za7 n a' ids'=0
 | [],_,_,_,n,hn=>by cases hn
 | m :: l,a,ids,h,n,hn=>by
  by_cases hw:za7 m a ids=0
  ·rw[zdd hw] at h;rcases List.mem_cons.1 hn with e|e
   ·rw[e];exact⟨_,_,hw⟩
   ·exact zdP h n e
  ·rw[zdO hw] at h;exact absurd h hw
theorem zcn (sub:Nat->List Fd->Bool->List Node)(d:Nat)(l:List Fd)(inD:Bool):∀(r:List Fd) (i:Nat) (f:Fd),f ∈ r->(∃a,(⟨d,a,f,inD⟩:Node) ∈ zaY sub d l inD i r)/\∀n ∈ sub (d+1) f.kids (inD || decide (f.k=19)),n ∈ zaY sub d l inD i r
 | [],i,f,hf=>by cases hf
 | g :: r,i,f,hf=>by
  simp only[zaY];rcases List.mem_cons.1 hf with e|e
  ·subst e;exact⟨⟨_,List.mem_cons_self ..⟩,fun n hn=>List.mem_cons_of_mem _ (List.mem_append_left _ hn)⟩
  ·obtain⟨⟨a,ha⟩,hs⟩:=zcn sub d l inD r (i+1) f e;exact⟨⟨a,List.mem_cons_of_mem _ (List.mem_append_right _ ha)⟩,fun n hn=>List.mem_cons_of_mem _ (List.mem_append_right _ (hs n hn))⟩
theorem zkL {f:Fd}(h:zaU f=true):f.kids.length<=32:=by
 unfold zaU at h;simp only[Bool.and_eq_true,decide_eq_true_eq] at h;have h1:=h.2.2.2.2;have:zbH f.k<=32:=by
  unfold zbH;split
  ·omega
  ·split <;> omega
 omega
theorem zn9 {f:Fd}(h:zaU f=true)(hk:f.k≠19):f.id=0/\f.ix=0:=by
 unfold zaU at h;simp only[Bool.and_eq_true,decide_eq_true_eq] at h;have h1:=h.2.2.1;unfold zb4 at h1;rw[if_neg hk] at h1;simpa using h1
theorem zq0 {f:Fd}(hf:zaU f=true)(hk:okL f.kids):okF f:=by
 have h1:f.k=19\/f.k=20->f.kids≠[]:=fun h=>zfb hf h;have h2:=zkL hf;cases f with
 | mk nm nl k wd id ix kids=>
  simp only[okF];exact⟨h1,h2,hk⟩
theorem zkp {f:Fd}(hf:zaU f=true)(hk:∀g ∈ f.kids,(zax g).id=0/\(zax g).ix=0):(zax f).id=0/\(zax f).ix=0:=by
 by_cases hd:f.k=19\/f.k=20
 ·cases he:f.kids with
  | nil=>exact absurd he (zfb hf hd)
  | cons g r=>
   rw[zgj hd he];exact hk g (by rw[he];exact List.mem_cons_self ..)
 ·rw[zfT hd];exact(show f.id=0/\f.ix=0 from zn9 hf (fun e=>hd (.inl e)))
theorem zfs:∀(r d:Nat) (l:List Fd) (inD:Bool),d+r=65->(∀n ∈ zbR r d l inD,∃a ids,za7 n a ids=0)->okL l/\∀f ∈ l,(zax f).id=0/\(zax f).ix=0
 | 0,d,l,inD,hd,h=>by
  cases l with
  | nil=>exact⟨trivial,fun f hf=>by cases hf⟩
  | cons f l=>
   obtain⟨⟨a,ha⟩,_⟩:=zcn (fun _ _ _=>[]) d (f :: l) inD (f :: l) 0 f (List.mem_cons_self ..);obtain⟨_,_,hw⟩:=h _ ha;have:=(zdo hw).1;simp only at this;omega
 | r+1,d,l,inD,hd,h=>by
  have one:∀f ∈ l,okF f/\((zax f).id=0/\(zax f).ix=0):=fun f hf=>by
   obtain⟨⟨a,ha⟩,hs⟩:=zcn (zbR r) d l inD l 0 f hf;obtain⟨_,_,hw⟩:=h _ ha;obtain⟨h1,h2⟩:=zfs r (d+1) f.kids (inD || decide (f.k=19)) (by omega) (fun n hn=>h n (hs n hn));exact⟨zq0 (zdo hw).2.2 h1,zkp (zdo hw).2.2 h2⟩
  clear h;refine⟨?_,fun f hf=>(one f hf).2⟩
  induction l with
  | nil=>trivial
  | cons f l ih=>
   simp only[okL];exact⟨(one f (List.mem_cons_self ..)).1,ih (fun g hg=>one g (List.mem_cons_of_mem _ hg))⟩
theorem zjQ {L:List Fd}(h:zfa L=0):okL L/\∀f ∈ L,(zax f).id=0/\(zax f).ix=0:=
 zfs 64 1 L false rfl (zdP h)
theorem zjs (e a:Int)(q:Option Addr)(d c:Nat)(w:World):(Instr.field 69 (.agg #[.int .i64 e,.slice q d c,.int .i64 a]) 0).run Tryz.prog w=.ok (.int .i64 e) w:=by kernel_rfl
def zga (w:World)(i:Int)(e:Ending)(w':World):Prop:=e=.returned (.int .i64 i)/\Below w.heap.size w w'
theorem zbb {w w':World}{a b:Int}(h:a=b)(hb:Below w.heap.size w w'):zga w b (.returned (.int .i64 a)) w':=⟨by rw[h],hb⟩
def zft (w:World)(l:List Fd)(e:Ending)(w':World):Prop:=∃p cap,e=.returned (.slice p l.length cap)/\(l.length<=cap/\cap<=maxLen)/\FdsS (fun b=>w.heap.size<=b) w' p 0 l/\Below w.heap.size w w'
inductive M where
 | one (v:Value)
 | many (sz:Nat) (rows:List (List M))
namespace M
mutual
def At (S:Nat->Prop)(w:World):M->Value->Prop
 | .one u,v=>v=u
 | .many sz rows,v=>∃p cap,v=.slice p rows.length cap/\(rows.length<=cap/\cap<=maxLen)/\RowsAt S w p sz 0 rows
def AtL (S:Nat->Prop)(w:World):List M->List Value->Prop
 | [],vs=>vs=[]
 | m :: r,vs=>∃v us,vs=v :: us/\At S w m v/\AtL S w r us
def RowsAt (S:Nat->Prop)(w:World)(p:Option Addr)(sz:Nat):Nat->List (List M)->Prop
 | _,[]=>True
 | off,r :: rs=>(∃b o cs,p=some ⟨b,o,none⟩/\S b/\(cs.length=sz/\0<sz)/\(∀(j:Nat) (u:Value),cs[j]?=some u->w.cell? ⟨b,o+off+j,none⟩=some u)/\AtL S w r cs)/\RowsAt S w p sz (off+sz) rs
end
mutual
theorem At.keep {S T:Nat->Prop}{w w':World}(hk:∀b,S b->b<w.heap.size->w'.heap[b]?=w.heap[b]?/\T b):∀ {m:M} {v:Value},At S w m v->At T w' m v
 | .one u,v,h=>by simp only[At] at h ⊢;exact h
 | .many sz rows,v,h=>by
  simp only[At] at h ⊢;obtain⟨p,cap,h1,h2,h3⟩:=h;exact⟨p,cap,h1,h2,RowsAt.keep hk h3⟩
theorem AtL.keep {S T:Nat->Prop}{w w':World}(hk:∀b,S b->b<w.heap.size->w'.heap[b]?=w.heap[b]?/\T b):∀ {r:List M} {vs:List Value},AtL S w r vs->AtL T w' r vs
 | [],vs,h=>by simp only[AtL] at h ⊢;exact h
 | m :: r,vs,h=>by
  simp only[AtL] at h ⊢;obtain⟨v,us,h1,h2,h3⟩:=h;exact⟨v,us,h1,At.keep hk h2,AtL.keep hk h3⟩
theorem RowsAt.keep {S T:Nat->Prop}{w w':World}(hk:∀b,S b->b<w.heap.size->w'.heap[b]?=w.heap[b]?/\T b){p:Option Addr}{sz:Nat}:∀ {rows:List (List M)} {off:Nat},RowsAt S w p sz off rows->RowsAt T w' p sz off rows
 | [],off,h=>by simp only[RowsAt]
 | r :: rs,off,h=>by
  simp only[RowsAt] at h ⊢;obtain⟨⟨b,o,cs,h1,hS,h2,h3,h4⟩,h5⟩:=h;have hb:b<w.heap.size:=by
   cases hc:cs with
   | nil=>rw[hc] at h2;simp at h2;omega
   | cons u us=>have:=World.block_lt_of_cell? w _ (h3 0 u (by rw[hc];rfl));simpa using this
  obtain⟨e1,e2⟩:=hk b hS hb;exact⟨⟨b,o,cs,h1,e2,h2,fun j u hj=>(World.cell?_of_block e1).trans (h3 j u hj),AtL.keep hk h4⟩,RowsAt.keep hk h5⟩
end
theorem At.below {S:Nat->Prop}{w w':World}(hb:Below w.heap.size w w'){m:M}{v:Value}(h:At S w m v):At S w' m v:=h.keep (fun b hs hlt=>⟨hb.block b hlt,hs⟩)
theorem AtL.below {S:Nat->Prop}{w w':World}(hb:Below w.heap.size w w'){r:List M}{vs:List Value}(h:AtL S w r vs):AtL S w' r vs:=h.keep (fun b hs hlt=>⟨hb.block b hlt,hs⟩)
theorem At.mono {S T:Nat->Prop}{w:World}(hST:∀b,S b->T b){m:M}{v:Value}(h:At S w m v):At T w m v:=h.keep (fun b hs _=>⟨rfl,hST b hs⟩)
theorem AtL.mono {S T:Nat->Prop}{w:World}(hST:∀b,S b->T b){r:List M}{vs:List Value}(h:AtL S w r vs):AtL T w r vs:=h.keep (fun b hs _=>⟨rfl,hST b hs⟩)
theorem RowsAt.get {S:Nat->Prop}{w:World}{p:Option Addr}{sz:Nat}:∀ {rows:List (List M)} {off:Nat},RowsAt S w p sz off rows->∀(i:Nat) (hi:i<rows.length),
  ∃b o cs,p=some ⟨b,o,none⟩/\S b/\cs.length=sz/\(∀(j:Nat) (u:Value),cs[j]?=some u->w.cell? ⟨b,o+(off+i*sz)+j,none⟩=some u)/\AtL S w rows[i] cs
 | r :: rs,off,h,0,_=>by
  simp only[RowsAt] at h;obtain⟨⟨b,o,cs,h1,hS,h2,h3,h4⟩,_⟩:=h;exact⟨b,o,cs,h1,hS,h2.1,fun j u hj=>by rw[Nat.zero_mul,Nat.add_zero];exact h3 j u hj,h4⟩
 | r :: rs,off,h,i+1,hi=>by
  simp only[RowsAt] at h;obtain⟨_,h5⟩:=h;obtain⟨b,o,cs,h1,hS,h2,h3,h4⟩:=h5.get i (by simpa using hi);refine⟨b,o,cs,h1,hS,h2,fun j u hj=>?_,by simpa using h4⟩;have:=h3 j u hj
  rwa [show off+sz+i*sz=off+(i+1)*sz by rw[Nat.succ_mul];omega] at this
theorem RowsAt.mk {S:Nat->Prop}{w:World}{p:Option Addr}{sz:Nat}(hsz:0<sz):∀ {rows:List (List M)} {off:Nat},(∀(i:Nat) (hi:i<rows.length),
  ∃b o cs,p=some ⟨b,o,none⟩/\S b/\cs.length=sz/\(∀(j:Nat) (u:Value),cs[j]?=some u->w.cell? ⟨b,o+(off+i*sz)+j,none⟩=some u)/\AtL S w rows[i] cs)->RowsAt S w p sz off rows
 | [],off,h=>by simp only[RowsAt]
 | r :: rs,off,h=>by
  simp only[RowsAt];refine⟨?_,RowsAt.mk hsz (rows:=rs) (off:=off+sz) fun i hi=>?_⟩
  ·obtain⟨b,o,cs,h1,hS,h2,h3,h4⟩:=h 0 (by simp);exact⟨b,o,cs,h1,hS,⟨h2,hsz⟩,fun j u hj=>by have:=h3 j u hj;rwa [Nat.zero_mul,Nat.add_zero] at this,by simpa using h4⟩
  ·obtain⟨b,o,cs,h1,hS,h2,h3,h4⟩:=h (i+1) (by simpa using hi);refine⟨b,o,cs,h1,hS,h2,fun j u hj=>?_,by simpa using h4⟩;have:=h3 j u hj
   rwa [show off+(i+1)*sz=off+sz+i*sz by rw[Nat.succ_mul];omega] at this
theorem At.slice {S:Nat->Prop}{w:World}{sz:Nat}{rows:List (List M)}{v:Value}(h:At S w (.many sz rows) v):∃p cap,v=.slice p rows.length cap/\(rows.length<=cap/\cap<=maxLen)/\RowsAt S w p sz 0 rows:=by
 simpa only[At] using h
theorem At.of {S:Nat->Prop}{w:World}{sz:Nat}{rows:List (List M)}{p:Option Addr}{cap:Nat}(h1:rows.length<=cap/\cap<=maxLen)(h2:RowsAt S w p sz 0 rows):At S w (.many sz rows) (.slice p rows.length cap):=by
 simp only[At];exact⟨p,cap,rfl,h1,h2⟩
theorem At.nil (S:Nat->Prop)(w:World)(sz:Nat):At S w (.many sz []) (.slice none 0 0):=by
 simp only[At];exact⟨none,0,rfl,⟨Nat.le_refl _,Nat.zero_le _⟩,by simp only[RowsAt]⟩
theorem AtL.cons {S:Nat->Prop}{w:World}{m:M}{r:List M}{v:Value}{vs:List Value}(h:At S w m v)(h':AtL S w r vs):AtL S w (m :: r) (v :: vs):=by
 simp only[AtL];exact⟨v,vs,rfl,h,h'⟩
theorem AtL.nil {S:Nat->Prop}{w:World}:AtL S w [] []:=by simp only[AtL]
theorem At.one {S:Nat->Prop}{w:World}{v:Value}:At S w (.one v) v:=by simp only[At]
theorem AtL.one {S:Nat->Prop}{w:World}{u:Value}{r:List M}{vs:List Value}(h:AtL S w (.one u :: r) vs):∃us,vs=u :: us/\AtL S w r us:=by
 simp only[AtL] at h;obtain⟨v,us,rfl,h1,h2⟩:=h;simp only[At] at h1;subst h1;exact⟨us,rfl,h2⟩
theorem AtL.many {S:Nat->Prop}{w:World}{sz:Nat}{rows:List (List M)}{r:List M}{vs:List Value}(h:AtL S w (.many sz rows :: r) vs):∃p cap us,vs=.slice p rows.length cap :: us/\At S w (.many sz rows) (.slice p rows.length cap)/\AtL S w r us:=by
 simp only[AtL] at h;obtain⟨v,us,rfl,h1,h2⟩:=h;obtain⟨p,cap,rfl,h3,h4⟩:=At.slice h1;exact⟨p,cap,us,rfl,h1,h2⟩
theorem AtL.end {S:Nat->Prop}{w:World}{vs:List Value}(h:AtL S w [] vs):vs=[]:=by simpa only[AtL] using h
theorem At.get {S:Nat->Prop}{w:World}{sz n cap:Nat}{rows:List (List M)}{p:Option Addr}(h:At S w (.many sz rows) (.slice p n cap))(i:Nat)(hi:i<rows.length) :
  ∃b o cs,p=some ⟨b,o,none⟩/\S b/\cs.length=sz/\(∀(j:Nat) (u:Value),cs[j]?=some u->w.cell? ⟨b,o+i*sz+j,none⟩=some u)/\AtL S w rows[i] cs:=by
 obtain⟨p',cap',e,_,h2⟩:=At.slice h;cases e;obtain⟨b,o,cs,h1,hS,h3,h4,h5⟩:=h2.get i hi;exact⟨b,o,cs,h1,hS,h3,fun j u hj=>by have:=h4 j u hj;rwa [Nat.zero_add] at this,h5⟩
structure Grow (e:TypeId)(sz:Nat)(W:World)(base:Nat)(v:Value)(rows:List (List M))(css:List (List Value)):Prop where
 own:W.ownsRow base e sz v rows.length (css.flatMap id)
 len:css.length=rows.length
 each:∀cs ∈ css,cs.length=sz
 row:∀(j:Nat) (h:j<rows.length) (h':j<css.length),AtL (fun b=>v.ownBlock≠some b) W rows[j] css[j]
theorem Grow.nil (e:TypeId)(sz:Nat)(W:World)(base:Nat):Grow e sz W base (.slice none 0 0) [] []:=⟨World.ownsRow_nil _ _ _ _,rfl,(fun _ h=>by cases h),fun j h=>absurd h (Nat.not_lt_zero _)⟩
theorem Grow.below {e:TypeId}{sz:Nat}{W W':World}{base:Nat}{v:Value}{rows:List (List M)}{css:List (List Value)}(h:Grow e sz W base v rows css)(hb:Below W.heap.size W W'):Grow e sz W' base v rows css:=
 ⟨h.own.kept (row:=none) ⟨hb.os,hb.tape,hb.output,hb.size,fun k hk _=>hb.block k hk⟩ (by
  rcases h.own.2 with⟨e,_⟩|⟨g,c,cur,e,_⟩
  ·rw[e];exact .inl rfl
  ·rw[e];exact .inr (by simp[Value.ownBlock])),h.len,h.each,fun j h1 h2=>(h.row j h1 h2).below hb⟩
theorem Grow.kept {e:TypeId}{sz:Nat}{W W':World}{row:Option Nat}{base:Nat}{v:Value}{rows:List (List M)}{css:List (List Value)}(h:Grow e sz W base v rows css)(hg:W.grownBy W' row)(ho:v.ownBlock=none\/v.ownBlock≠row)
  (hr:∀(j:Nat) (h1:j<rows.length) (h2:j<css.length),AtL (fun b=>v.ownBlock≠some b/\some b≠row) W rows[j] css[j]):Grow e sz W' base v rows css:=
 ⟨h.own.kept hg (by
  rcases ho with e|e
  ·rcases h.own.2 with⟨e',_⟩|⟨g,c,cur,e',_⟩
   ·rw[e'];exact .inl rfl
   ·rw[e'] at e;cases e
  ·exact .inr e),h.len,h.each,fun j h1 h2=>(hr j h1 h2).keep (fun b hs hlt=>⟨hg.block b hlt hs.2,hs.1⟩)⟩
theorem Grow.setBelow {e:TypeId}{sz:Nat}{W:World}{base:Nat}{v:Value}{rows:List (List M)}{css:List (List Value)}(h:Grow e sz W base v rows css){a:Addr}(ha:a.block<base)
  (hr:∀(j:Nat) (h1:j<rows.length) (h2:j<css.length),AtL (fun b=>v.ownBlock≠some b/\b≠a.block) W rows[j] css[j]) (u:Value):Grow e sz (W.setCell a u) base v rows css:=
 ⟨ownsRow_setCell_below h.own ha u,h.len,h.each,fun j h1 h2=>(hr j h1 h2).keep (fun b hs hlt=>⟨Below.heap_setCell _ _ _ b hs.2,hs.1⟩)⟩
theorem Grow.room {e:TypeId}{sz:Nat}{W:World}{base:Nat}{p:Option Addr}{n cap:Nat}{rows:List (List M)}{css:List (List Value)}(h:Grow e sz W base (.slice p n cap) rows css):n=rows.length/\rows.length<=cap/\cap<=maxLen:=by
 rcases h.own.2 with⟨e,hn⟩|⟨g,c,cur,e,_,_,h1,h2,_⟩
 ·simp only[Value.slice.injEq] at e;obtain⟨_,e2,e3⟩:=e;exact⟨by omega,by omega,by rw[e3];decide⟩
 ·cases e;exact⟨rfl,h1,h2⟩
theorem Grow.list {e:TypeId}{sz:Nat}(hsz:0<sz){W:World}{base:Nat}{p:Option Addr}{n cap:Nat}{rows:List (List M)}{css:List (List Value)}(h:Grow e sz W base (.slice p n cap) rows css):At (fun _=>True) W (.many sz rows) (.slice p n cap):=by
 obtain⟨hn,h1,h2⟩:=h.room;subst hn;refine At.of ⟨h1,h2⟩ (RowsAt.mk hsz fun i hi=>?_);rcases h.own.2 with⟨e,hn⟩|⟨g,c,cur,e,hbg,_⟩
 ·omega
 ·cases e;have hi':i<css.length:=by rw[h.len];exact hi
  refine⟨g,0,css[i],rfl,trivial,h.each _ (List.getElem_mem hi'),fun j u hj=>?_,(h.row i hi hi').mono (fun b _=>trivial)⟩;have hj':j<sz:=by
   have:=(List.getElem?_eq_some_iff.1 hj).1
   rwa [h.each _ (List.getElem_mem hi')] at this
  have h3:=h.own.cells (g:=g) rfl (i*sz+j) u (by rw[zej sz css h.each i hi' j hj'];exact hj);rw[Addr.add_lit] at h3;simpa using h3
theorem Grow.push {e:TypeId}{sz:Nat}{W W1:World}{base:Nat}{v:Value}{rows:List (List M)}{css:List (List Value)}(h:Grow e sz W base v rows css){r:List M}{cs:List Value}(hr:AtL (fun b=>v.ownBlock≠some b) W r cs)(hcs:cs.length=sz)
  {n:Nat} (hn:rows.length=n) {gg cap1:Nat} (hown:W1.ownsRow base e sz (.slice (some ⟨gg,0,none⟩) (n+1) cap1) (n+1) (css.flatMap id ++ cs)) (hgrow:W.grownBy W1 v.ownBlock) (hat:v.ownBlock=some gg\/gg=W.heap.size) :
  Grow e sz W1 base (.slice (some ⟨gg,0,none⟩) (n+1) cap1) (rows ++ [r]) (css ++ [cs]):=by
 subst hn;have keep:∀ {x:List M} {c:List Value},AtL (fun b=>v.ownBlock≠some b) W x c->AtL (fun b=>(Value.slice (some ⟨gg,0,none⟩) (rows.length+1) cap1).ownBlock≠some b) W1 x c:=fun hf=>hf.keep (fun b hs hlt=>by
  refine⟨hgrow.block b hlt (fun e=>hs e.symm),?_⟩;intro e;simp[Value.ownBlock] at e;rcases hat with h|h
  ·exact hs (by rw[h,e])
  ·omega)
 refine⟨by rw[List.length_append,List.flatMap_append];simpa using hown,by simp[h.len],fun x hx=>?_,fun j h1 h2=>?_⟩
 ·rcases List.mem_append.1 hx with e|e
  ·exact h.each x e
  ·simp at e;rw[e];exact hcs
 ·by_cases hj:j<rows.length
  ·rw[List.getElem_append_left hj,List.getElem_append_left (by rw[h.len];exact hj)];exact keep (h.row j hj (by rw[h.len];exact hj))
  ·have e:j=rows.length:=by simp at h1;omega
   subst e;have hl:=h.len;simp only[List.getElem_append_right (Nat.le_refl _),Nat.sub_self];rw[List.getElem_append_right (by omega)];simp only[hl,Nat.sub_self,List.getElem_cons_zero];exact keep hr
end M
end Go.Fld
namespace Go.Fld
open Go Go.RowKit Go.Proofs Go.ChangeShapes Go.WideShapes Go.ChangeAt Go.Shelf
inductive Dt where
 | mk (len off nul:Int) (bufs:List ByteArray) (kids dict:List Dt)
namespace Dt
def len:Dt->Int|mk a _ _ _ _ _=>a
def off:Dt->Int|mk _ a _ _ _ _=>a
def nul:Dt->Int|mk _ _ a _ _ _=>a
def bufs:Dt->List ByteArray|mk _ _ _ a _ _=>a
def kids:Dt->List Dt|mk _ _ _ _ a _=>a
def dict:Dt->List Dt|mk _ _ _ _ _ a=>a
end Dt
abbrev d6 (d:Dt)(bp:Option Addr)(bc:Nat)(kp:Option Addr)(kc:Nat)(dp:Option Addr)(dc:Nat):List Value:=[.int .i64 d.len,.int .i64 d.off,.int .i64 d.nul,.slice bp d.bufs.length bc,.slice kp d.kids.length kc,.slice dp d.dict.length dc]
def zaq (s:ByteArray)(i:Nat):Int:=(((s.data[i]?).getD 0).toNat:Int)
def zby (s:ByteArray):M:=.many 1 (s.data.toList.map fun x=>[.one (.int .u8 (x.toNat:Int))])
def zeu (l:List ByteArray):M:=.many 1 (l.map fun s=>[zby s])
def zdQ (l:List Int):M:=.many 1 (l.map fun x=>[.one (.int .i64 x)])
mutual
def dtR:Dt->List M
 | .mk len off nul bufs kids dict=>[.one (.int .i64 len),.one (.int .i64 off),.one (.int .i64 nul),zeu bufs,.many 6 (dtL kids),.many 6 (dtL dict)]
def dtL:List Dt->List (List M)
 | []=>[]
 | d :: r=>dtR d :: dtL r
end
theorem zkM:∀l:List Dt,dtL l=l.map dtR
 | []=>rfl
 | d :: r=>by rw[dtL,zkM r];rfl
theorem ziR (d:Dt):dtR d=[.one (.int .i64 d.len),.one (.int .i64 d.off),.one (.int .i64 d.nul),zeu d.bufs,.many 6 (d.kids.map dtR),.many 6 (d.dict.map dtR)]:=by
 cases d with
 | mk len off nul bufs kids dict=>rw[dtR,zkM,zkM];rfl
theorem za1 (s:ByteArray)(i:Nat):0<=zaq s i/\zaq s i<256:=by
 unfold zaq;have:=((s.data[i]?).getD 0).toNat_lt;omega
theorem zaZ {S:Nat->Prop}{w:World}{s:ByteArray}{p:Option Addr}{n cap:Nat}(h:M.At S w (zby s) (.slice p n cap)):(n=s.size/\s.size<=cap/\cap<=maxLen)/\∀i,i<s.size->∃b o,p=some ⟨b,o,none⟩/\S b/\w.cell? ⟨b,o+i,none⟩=some (.int .u8 (zaq s i)):=by
 obtain⟨p',cap',e,h1,_⟩:=M.At.slice h;simp only[Value.slice.injEq,List.length_map,Array.length_toList] at e h1;obtain⟨rfl,rfl,rfl⟩:=e;refine⟨⟨rfl,h1⟩,fun i hi=>?_⟩;have hi':i<s.data.size:=hi;obtain⟨b,o,cs,rfl,hS,h2,h3,h4⟩:=M.At.get h i (by simpa using hi');refine⟨b,o,rfl,hS,?_⟩;simp only[List.getElem_map,Array.getElem_toList] at h4;obtain⟨us,rfl,h5⟩:=M.AtL.one h4;have:=h3 0 _ rfl;rw[Nat.mul_one,Nat.add_zero] at this;rw[this];unfold zaq;rw[Array.getElem?_eq_getElem hi'];rfl
theorem ze1 {S:Nat->Prop}{w:World}{s:ByteArray}{v:Value}(h:M.At S w (zby s) v):∃p cap,v=.slice p s.size cap/\s.size<=cap/\cap<=maxLen:=by
 obtain⟨p,cap,e,h1,_⟩:=M.At.slice h;have hl:(s.data.toList.map fun x=>[M.one (.int .u8 (x.toNat:Int))]).length=s.size:=by simp
 rw[hl] at e h1;exact⟨p,cap,e,h1⟩
def zbX (k:Int):Bool:=(k != 1 && k != 18) && k != 20
def zaK (k:Int):Int:=if k=3\/k=7 then 1 else if k=4\/k=8 then 2 else if k=5\/k=9 then 4 else if k=6\/k=10\/k=11 then 8 else 0
def zhT (n:Int):Int:=if n<=0 then 0 else(n-1) / 8+1
theorem zcX (k:Int)(w:World):Calls Tryz.prog 103 #[.int .i64 k] w (zaz w (.bool (zbX k))):=by
 cases q1:(k != 1) with
 | false=>
  have e:zbX k=false:=by unfold zbX;rw[q1];rfl
  rw[e]
  go_in
  go_wp2_with fail;go_ret;exact zav rfl rfl
 | true=>
  cases q2:(k != 18) with
  | false=>
   have e:zbX k=false:=by unfold zbX;rw[q1,q2];rfl
   rw[e]
   go_in
   go_wp2_with fail;go_ret;exact zav rfl rfl
  | true=>
   have e:zbX k=(k != 20):=by unfold zbX;rw[q1,q2];rfl
   rw[e];cases q3:(k != 20) <;>
   ·go_in
    go_wp2_with fail;go_ret;exact zav rfl rfl
theorem ziS (n:Int)(hn:zah n)(w:World):Calls Tryz.prog 99 #[.int .i64 n] w (zaz w (.int .i64 (zhT n))):=by
 obtain⟨h1,h2⟩:=hn;by_cases h:n<=0
 ·have e:zhT n=0:=if_pos h;rw[e]
  go_in
  go_wp2_with fail;go_ret;exact zav rfl rfl
 ·have e:zhT n=(n-1) / 8+1:=if_neg h;rw[e]
  go_in
  go_wp2_with fail;go_ret;exact zav rfl rfl
theorem zfU (k:Int)(w:World):Calls Tryz.prog 105 #[.int .i64 k] w (zaz w (.int .i64 (zaK k))):=by
 by_cases h1:k=3\/k=7
 ·have e:zaK k=1:=if_pos h1;rw[e];rcases h1 with rfl|rfl <;>
  ·go_in
   go_wp2_with fail;go_ret;exact zav rfl rfl
 by_cases h2:k=4\/k=8
 ·have e:zaK k=2:=by unfold zaK;rw[if_neg h1,if_pos h2]
  rw[e];clear h1;rcases h2 with rfl|rfl <;>
  ·go_in
   go_wp2_with fail;go_ret;exact zav rfl rfl
 by_cases h3:k=5\/k=9
 ·have e:zaK k=4:=by unfold zaK;rw[if_neg h1,if_neg h2,if_pos h3]
  rw[e];clear h1 h2;rcases h3 with rfl|rfl <;>
  ·go_in
   go_wp2_with fail;go_ret;exact zav rfl rfl
 by_cases h4:k=6\/k=10\/k=11
 ·have e:zaK k=8:=by unfold zaK;rw[if_neg h1,if_neg h2,if_neg h3,if_pos h4]
  rw[e];clear h1 h2 h3;rcases h4 with rfl|rfl|rfl <;>
  ·go_in
   go_wp2_with fail;go_ret;exact zav rfl rfl
 have e:zaK k=0:=by unfold zaK;rw[if_neg h1,if_neg h2,if_neg h3,if_neg h4]
 rw[e];have q3:(k == 3)=false:=by simp;omega
 have q4:(k == 4)=false:=by simp;omega
 have q5:(k == 5)=false:=by simp;omega
 have q6:(k == 6)=false:=by simp;omega
 have q7:(k == 7)=false:=by simp;omega
 have q8:(k == 8)=false:=by simp;omega
 have q9:(k == 9)=false:=by simp;omega
 have q10:(k == 10)=false:=by simp;omega
 have q11:(k == 11)=false:=by simp;omega
 clear h1 h2 h3 h4 e
 go_in
 go_wp2_with fail;go_ret;exact zav rfl rfl
def zis (s:ByteArray)(i:Nat):Bool:=bits BinOp.and IntKind.u8 (zaq s (i / 8) / 2 ^ (i % 8)) 1 == 1
theorem zoa {w:World}{s:ByteArray}{v:Value}(h:M.At (fun _=>True) w (zby s) v)(i:Nat)(hi:i / 8<s.size)(hb:i<=9223372036854775807):Calls Tryz.prog 111 #[v,.int .i64 i] w (zaz w (.bool (zis s i))):=by
 obtain⟨p,cap,rfl,_,_⟩:=ze1 h;obtain⟨⟨h1,h2,h3⟩,h4⟩:=zaZ h;obtain⟨b,o,rfl,_,x0⟩:=h4 (i / 8) hi;clear h h4;unfold maxLen at h3
 go_in
 go_wp2_with fail;go_ret;exact zav rfl rfl
def s32 (s:ByteArray)(i:Nat):Int:=wrap64 (wrap32 (bits BinOp.or IntKind.u32 (bits BinOp.or IntKind.u32 (bits BinOp.or IntKind.u32 (zaq s (4*i) % 4294967296) (zaq s (4*i+1) % 4294967296*256 % 4294967296)) (zaq s (4*i+2) % 4294967296*65536 % 4294967296)) (zaq s (4*i+3) % 4294967296*16777216 % 4294967296)))
theorem zcx (s:ByteArray)(i:Nat):-2147483648<=s32 s i/\s32 s i<=2147483647:=by
 unfold s32;generalize bits BinOp.or IntKind.u32 _ (zaq s (4*i+3) % 4294967296*16777216 % 4294967296)=x;unfold wrap64 wrap32;omega
def zg7 (w:World)(v:Value)(e:Ending)(w':World):Prop:=e=.returned v/\∃n,w'=w.drewN n
theorem za2 {w:World}{s:ByteArray}{v:Value}(h:M.At (fun _=>True) w (zby s) v)(i:Nat)(hi:4*i+4<=s.size):Calls Tryz.prog 87 #[v,.int .i64 i] w (zg7 w (.int .i64 (s32 s i))):=by
 obtain⟨p,cap,rfl,_,_⟩:=ze1 h;obtain⟨⟨h1,h2,h3⟩,h4⟩:=zaZ h;obtain⟨b,o,rfl,_,x0⟩:=h4 (4*i) (by omega);obtain⟨_,_,e1,_,x1⟩:=h4 (4*i+1) (by omega);cases e1;obtain⟨_,_,e2,_,x2⟩:=h4 (4*i+2) (by omega);cases e2;obtain⟨_,_,e3,_,x3⟩:=h4 (4*i+3) (by omega);cases e3;clear h h4;unfold maxLen at h3
 go_in
 go_wp2_with fail;obtain⟨m,hm⟩:=nm (s.size-4*i);obtain⟨a,ha⟩:=nm (o+4*i);have g0:(0:Int)<(m:Int):=by omega
 have g1:(1:Int)<(m:Int):=by omega
 have g2:(2:Int)<(m:Int):=by omega
 have g3:(3:Int)<(m:Int):=by omega
 rw[<-Nat.add_assoc,<-ha] at x1 x2 x3;rw[<-ha] at x0;rw[<-hm,<-ha];clear hm ha hi
 go_quiet (fail)
 go_wp2_with fail;go_ret;exact⟨rfl,_,rfl⟩
theorem zjR {w:World}{s:ByteArray}{v:Value}(h:M.At (fun _=>True) w (zby s) v)(i:Nat)(hb:i<=9223372036854775807) :
  Calls Tryz.prog 104 #[v,.int .i64 i] w (zaz w (.tuple #[.bool (if i / 8<s.size then zis s i else false),.int .i64 (if i / 8<s.size then 0 else 2)])):=by
 have H:=zh h;obtain⟨p,cap,rfl,h1,_⟩:=ze1 h;clear h;by_cases hi:i / 8<s.size
 ·rw[if_pos hi,if_pos hi]
  go_in
  go_wp2_with fail;refine(zoa H.o i hi hb).mono ?_;rintro e w' ⟨rfl,rfl⟩;go_wp2_with fail;go_ret2;exact zav rfl rfl
 ·rw[if_neg hi,if_neg hi]
  go_in
  go_wp2_with fail;go_ret2;exact zav rfl rfl
end Go.Fld
namespace Go.Fld
open Go Go.RowKit Go.Proofs Go.ChangeShapes Go.WideShapes Go.ChangeAt Go.Shelf
def DAt (S:Nat->Prop)(w:World)(d:Dt)(cs:List Value):Prop:=M.AtL S w (dtR d) cs
theorem DAt.below {S:Nat->Prop}{w w':World}{d:Dt}{cs:List Value}(h:DAt S w d cs)(hb:Below w.heap.size w w'):DAt S w' d cs:=M.AtL.below hb h
theorem DAt.shape {S:Nat->Prop}{w:World}{d:Dt}{cs:List Value}(h:DAt S w d cs):∃bp bc kp kc dp dc,cs=[.int .i64 d.len,.int .i64 d.off,.int .i64 d.nul,.slice bp d.bufs.length bc,.slice kp d.kids.length kc,.slice dp d.dict.length dc] /\
  M.At S w (zeu d.bufs) (.slice bp d.bufs.length bc)/\M.At S w (.many 6 (d.kids.map dtR)) (.slice kp d.kids.length kc)/\M.At S w (.many 6 (d.dict.map dtR)) (.slice dp d.dict.length dc):=by
 unfold DAt at h;rw[ziR] at h;obtain⟨_,rfl,h1⟩:=M.AtL.one h;obtain⟨_,rfl,h2⟩:=M.AtL.one h1;obtain⟨_,rfl,h3⟩:=M.AtL.one h2;obtain⟨bp,bc,_,rfl,hb,h4⟩:=M.AtL.many h3;obtain⟨kp,kc,_,rfl,hk,h5⟩:=M.AtL.many h4;obtain⟨dp,dc,_,rfl,hd,h6⟩:=M.AtL.many h5;cases M.AtL.end h6;simp only[List.length_map] at hb hk hd ⊢;exact⟨bp,bc,kp,kc,dp,dc,rfl,hb,hk,hd⟩
theorem zbI {S:Nat->Prop}{w:World}{l:List ByteArray}{p:Option Addr}{n cap:Nat}(h:M.At S w (zeu l) (.slice p n cap))(i:Nat)(hi:i<l.length):∃b o q c,p=some ⟨b,o,none⟩/\S b/\w.cell? ⟨b,o+i,none⟩=some (.slice q l[i].size c)/\M.At S w (zby l[i]) (.slice q l[i].size c):=by
 obtain⟨b,o,cs,rfl,hS,h2,h3,h4⟩:=M.At.get h i (by simpa using hi);simp only[List.getElem_map] at h4;simp only[M.AtL] at h4;obtain⟨v,us,rfl,h5,rfl⟩:=h4;obtain⟨q,c,rfl,_,_⟩:=ze1 h5;have:=h3 0 _ rfl;rw[Nat.mul_one,Nat.add_zero] at this;exact⟨b,o,q,c,rfl,hS,this,h5⟩
theorem zam {S:Nat->Prop}{w:World}{sz n cap:Nat}{rows:List (List M)}{p:Option Addr}(h:M.At S w (.many sz rows) (.slice p n cap)):n=rows.length/\rows.length<=cap/\cap<=maxLen:=by
 obtain⟨_,_,e,h1,_⟩:=M.At.slice h;cases e;exact⟨rfl,h1⟩
def zaF (k:Int)(bufs:List ByteArray)(r:Nat):Bool:=if k=1 then true else if zbX k=false then false else match bufs with
 | s :: _=>if s.size=0 then false else !(if r / 8<s.size then zis s r else false)
 | []=>false
theorem zfk {w:World}{f:Fd}{d:Dt}{fs ds:List Value}(hf:FdAt w f fs)(hd:DAt (fun _=>True) w d ds)(hs:zbX f.k=true->0<d.bufs.length)(r:Nat)(hr:r<=9223372036854775807) :
  Calls Tryz.prog 88 #[.agg fs.toArray,.agg ds.toArray,.int .i64 r] w (ziq w (zaF f.k d.bufs r)):=by
 obtain⟨fp,fc,rfl,-⟩:=hf.shape;obtain⟨bp,bc,kp,kc,dp,dc,rfl,hB,-,-⟩:=hd.shape;obtain⟨-,hb1,hb2⟩:=zam hB;have HB:=zh hB;have HS:=zh hs;clear hf hd hB hs;obtain⟨W,hW⟩:=nm ((w.alloc (.cells #[.string f.nm,.bool f.nl,.int .i64 f.k,.int .i64 f.wd,.int .i64 f.id,.int .i64 f.ix,.slice fp f.kids.length fc] 26)).alloc (.cells #[.int .i64 d.len,.int .i64 d.off,.int .i64 d.nul,.slice bp d.bufs.length bc,.slice kp d.kids.length kc,.slice dp d.dict.length dc] 46));have hBW:Below w.heap.size w W:=by rw[hW];exact((Below.refl _ w).alloc (Nat.le_refl _) _).alloc (by simp) _
 have a2:BoxN W (w.heap.size+1) 46 (d6 d bp bc kp kc dp dc):=by
  rw[hW];have:=BoxN.new (w.alloc (.cells #[.string f.nm,.bool f.nl,.int .i64 f.k,.int .i64 f.wd,.int .i64 f.id,.int .i64 f.ix,.slice fp f.kids.length fc] 26)) 46 (d6 d bp bc kp kc dp dc)
  rwa [World.size_alloc] at this
 have A2:=zh a2;have HBW:=zh hBW;have HW:=zh hW;clear a2 hBW hW;by_cases hk:f.k=1
 ·have HE:=zh (show zaF f.k d.bufs r=true by unfold zaF;rw[if_pos hk]);have q:(f.k == 1)=true:=by simpa using hk
  clear hk
  go_in
  go_wp2_with fail;rw[<-HW.o,HE.o];go_ret;exact zei rfl HBW.o
 have q:(f.k == 1)=false:=by simpa using hk
 cases hv:zbX f.k with
 | false=>
  have HE:=zh (show zaF f.k d.bufs r=false by unfold zaF;rw[if_neg hk,if_pos hv]);rw[HE.o];have HV:=zh hv;clear hk hv
  go_in
  go_wp2_with fail;rw[<-HW.o];refine(zcX f.k W).mono ?_;rintro e W2 ⟨rfl,rfl⟩;rw[HV.o];go_wp2_with fail;go_ret;exact zei rfl HBW.o
 | true=>
 obtain⟨b,o,qp,c,rfl,_,x0,h1⟩:=zbI HB.o 0 (HS.o hv);obtain⟨s,hs⟩:=nm (d.bufs[0]'(HS.o hv));rw[<-hs] at x0 h1;rw[Nat.add_zero] at x0;have HE:=zh (show zaF f.k d.bufs r=if s.size=0 then false else !(if r / 8<s.size then zis s r else false) by
  unfold zaF;rw[if_neg hk,if_neg (by rw[hv];decide)];have h0:=HS.o hv;cases hd:d.bufs with
  | nil=>rw[hd] at h0;cases h0
  | cons u t=>simp only[hd,List.getElem_cons_zero] at hs;rw[hs])
 have hlen:(0:Int)<(d.bufs.length:Int):=by have:=HS.o hv;omega
 rw[HE.o];clear hs;have HV:=zh hv;have H1:=zh h1;obtain⟨⟨-,hs1,hs2⟩,-⟩:=zaZ h1;have x1:=zaa HBW.o x0;clear hk hv h1 HE x0;by_cases hz:s.size=0
 ·rw[if_pos hz];have q2:((s.size:Int) == 0)=true:=by simp[hz]
  clear hz
  go_in
  go_wp2_with fail;rw[<-HW.o];refine(zcX f.k W).mono ?_;rintro e W2 ⟨rfl,rfl⟩;rw[HV.o];have y0:=A2.o.row 3 _ rfl;have hl:=A2.o.lt;go_wp2_with fail;go_ret;exact zei rfl HBW.o
 ·rw[if_neg hz];have q2:((s.size:Int) == 0)=false:=beq_eq_false_iff_ne.2 (by omega);clear hz;by_cases hi:r / 8<s.size
  ·rw[if_pos hi];have hg:=zjR (H1.o.below HBW.o) r hr;rw[if_pos hi,if_pos hi] at hg;have HG:=zh hg;clear hi hg
   go_in
   go_wp2_with fail;rw[<-HW.o];refine(zcX f.k W).mono ?_;rintro e W2 ⟨rfl,rfl⟩;rw[HV.o];have y0:=A2.o.row 3 _ rfl;have hl:=A2.o.lt;go_wp2_with fail;refine HG.o.mono ?_;rintro e W3 ⟨rfl,rfl⟩;go_wp2_with fail;go_ret;exact zei rfl HBW.o
  ·rw[if_neg hi];have hg:=zjR (H1.o.below HBW.o) r hr;rw[if_neg hi,if_neg hi] at hg;have HG:=zh hg;clear hi hg
   go_in
   go_wp2_with fail;rw[<-HW.o];refine(zcX f.k W).mono ?_;rintro e W2 ⟨rfl,rfl⟩;rw[HV.o];have y0:=A2.o.row 3 _ rfl;have hl:=A2.o.lt;go_wp2_with fail;refine HG.o.mono ?_;rintro e W3 ⟨rfl,rfl⟩;go_wp2_with fail;go_ret;exact zei rfl HBW.o
theorem zjS {fn:Func}{i:Nat}(hfn:fn.results=#[.cell i 69]){W:World}{tmps:Array Value}{rb:Nat}{e a:Int}{v:Value}(ht:tmps.getD i undef=.pointer (some ⟨rb,0,none⟩))(hw:RowAt W rb [.int .i64 e,v,.int .i64 a]) :
  (results fn tmps).run Tryz.prog W=.ok (.agg #[.int .i64 e,v,.int .i64 a]) W:=by
 have c0:=hw 0 _ rfl;have c1:=hw 1 _ rfl;have c2:=hw 2 _ rfl;rw[Array.getD_eq_getD_getElem?] at ht;simp[results,hfn,go_sem,ht,c0,c1,c2]
theorem zev {fn:Func}{i:Nat}(hfn:fn.results=#[.cell i 69]){w W:World}{rb:Nat}{er a:Int}{v:Value}{d:Nat}(hbx:BoxN W rb 69 [.int .i64 er,v,.int .i64 a])(hv:zjr v d)(hB:Below w.heap.size w W)
  {tmps:Array Value} (ht:tmps.getD i undef=.pointer (some ⟨rb,0,none⟩)):bodyPost Tryz.prog fn (zfG w er) Exit.ret { tmps:=tmps,defers:=[] } W:=
 bodyPost_ret (zjS hfn ht hbx.row) rfl ⟨d,v,a,rfl,hv,hB⟩
def zpm (v:Value)(d:Nat):Prop:=∃p c,v=.slice p d c/\(p=none/\d=0/\c=0)
theorem zcE:zpm (.slice none 0 0) 0:=⟨none,0,rfl,rfl,rfl,rfl⟩
def zcP (w:World)(res:Int)(e:Ending)(w':World):Prop:=∃d path at',e=.returned (.agg #[.int .i64 res,path,.int .i64 at'])/\zpm path d/\Below w.heap.size w w'
theorem zal {fn:Func}{i:Nat}(hfn:fn.results=#[.cell i 69]){w W:World}{rb:Nat}{er a:Int}{v:Value}{d:Nat}(hbx:BoxN W rb 69 [.int .i64 er,v,.int .i64 a])(hv:zpm v d)(hB:Below w.heap.size w W)
  {tmps:Array Value} (ht:tmps.getD i undef=.pointer (some ⟨rb,0,none⟩)):bodyPost Tryz.prog fn (zcP w er) Exit.ret { tmps:=tmps,defers:=[] } W:=
 bodyPost_ret (zjS hfn ht hbx.row) rfl ⟨d,v,a,rfl,hv,hB⟩
theorem zar (e a:Int)(w:World):Calls Tryz.prog 49 #[.int .i64 e,.int .i64 a] w (zcP w e):=by
 go_in
 go_wp2_with fail;exact zal (i:=4) rfl (BoxN.new w 69 [.int .i64 e,.slice none 0 0,.int .i64 a]) zcE ((Below.refl _ w).alloc (Nat.le_refl _) _) rfl
def zcQ (k:Int)(bufs:List ByteArray)(o:Nat):Nat->Nat
 | 0=>0
 | n+1=>zcQ k bufs o n+(if zaF k bufs (o+n)=true then 1 else 0)
theorem zjT (k:Int)(bufs:List ByteArray)(o:Nat):∀n,zcQ k bufs o n<=n
 | 0=>Nat.le_refl _
 | n+1=>by have:=zjT k bufs o n;unfold zcQ;split <;> omega
theorem zl6 {w:World}{f:Fd}{d:Dt}{fs ds:List Value}(hf:FdAt w f fs)(hd:DAt (fun _=>True) w d ds)(hs:zbX f.k=true->0<d.bufs.length){n o:Nat}(hn:d.len=n)(ho:d.off=o)(hb:n<=8192/\o<=8192) :
  Calls Tryz.prog 101 #[.agg fs.toArray,.agg ds.toArray] w (zga w (zcQ f.k d.bufs o n)):=by
 have HF:=zh hf;have HD:=zh hd;obtain⟨fp,fc,rfl,-⟩:=hf.shape;obtain⟨bp,bc,kp,kc,dp,dc,rfl,-,-,-⟩:=hd.shape;have HS:=zh hs;obtain⟨hn8,ho8⟩:=hb;clear hf hd hs;obtain⟨W,hW⟩:=nm ((w.alloc (.cells #[.string f.nm,.bool f.nl,.int .i64 f.k,.int .i64 f.wd,.int .i64 f.id,.int .i64 f.ix,.slice fp f.kids.length fc] 26)).alloc (.cells #[.int .i64 d.len,.int .i64 d.off,.int .i64 d.nul,.slice bp d.bufs.length bc,.slice kp d.kids.length kc,.slice dp d.dict.length dc] 46));have hBW:Below w.heap.size w W:=by rw[hW];exact((Below.refl _ w).alloc (Nat.le_refl _) _).alloc (by simp) _
 have a1:BoxN W w.heap.size 26 (f7 f fp fc):=by
  rw[hW];exact(BoxN.new w 26 (f7 f fp fc)).alloc _
 have a2:BoxN W (w.heap.size+1) 46 [.int .i64 d.len,.int .i64 d.off,.int .i64 d.nul,.slice bp d.bufs.length bc,.slice kp d.kids.length kc,.slice dp d.dict.length dc]:=by
  rw[hW];have:=BoxN.new (w.alloc (.cells #[.string f.nm,.bool f.nl,.int .i64 f.k,.int .i64 f.wd,.int .i64 f.id,.int .i64 f.ix,.slice fp f.kids.length fc] 26)) 46 (d6 d bp bc kp kc dp dc)
  rwa [World.size_alloc] at this
 rw[hn,ho] at a2 hW;rw[hn,ho];have HNO:=zh (And.intro hn ho);have A1:=zh a1;have A2:=zh a2;have HBW:=zh hBW;have HW:=zh hW;clear a1 a2 hBW hW hn ho
 go_in
 go_wp2_with fail;rw[<-HW.o];clear HW
 go_loopw [9,5] (fun i t5 wr=>∃k:Nat,k<=n/\i=.int .i64 k/\t5=.int .i64 (zcQ f.k d.bufs o k)/\Hid (Below W.heap.size W wr)) (fun i _ _=>n-(intOf i).toNat)
 case atStart=>exact⟨0,by omega,rfl,rfl,zh (Below.refl _ _)⟩
 case round=>
  obtain⟨k,hk,rfl,rfl,HB⟩:=hrel;have HBw:=zh (HBW.o.trans (HB.o.mono HBW.o.size));by_cases hlt:k<n
  ·have B1:=A1.o.below HB.o A1.o.lt;have B2:=A2.o.below HB.o A2.o.lt;obtain⟨p0,p1,p2,p3,p4,p5,p6⟩:=rr7 B1.row;obtain⟨r0,r1,r2,r3,r4,r5⟩:=rr6 B2.row;have hl1:=B1.lt;have hl2:=B2.lt;have hd':=HD.o.below HBw.o;rw[HNO.o.1,HNO.o.2] at hd';have HN:=zh (zfk (HF.o.below HBw.o) hd' HS.o (o+k) (by omega));have hcl:=zjT f.k d.bufs o k;have HST:=zh (show zcQ f.k d.bufs o (k+1)=zcQ f.k d.bufs o k+(if zaF f.k d.bufs (o+k)=true then 1 else 0) from rfl);clear B1 B2 hd';go_wp2_with fail;refine HN.o.mono ?_;rintro e W2 ⟨rfl,hb2⟩;have HB2:=zh (HB.o.trans (hb2.mono HB.o.size));clear hb2 p0 p1 p2 p3 p4 p5 p6 r0 r1 r2 r3 r4 r5 hl1 hl2 HN;cases hnb:zaF f.k d.bufs (o+k) with
   | true=>
    rw[hnb] at HST;clear hnb;go_wp2_with fail;exact⟨⟨k+1,by omega,by go_num,by rw[HST.o];go_num,HB2⟩,by simp[intOf];omega⟩
   | false=>
    rw[hnb] at HST;clear hnb;go_wp2_with fail;exact⟨⟨k+1,by omega,by go_num,by rw[HST.o];go_num,HB2⟩,by simp[intOf];omega⟩
  ·obtain rfl:k=n:=by omega
   go_wp2_with fail;go_ret;exact zbb rfl HBw.o
theorem zao (w:World)(t1:TypeId)(l1:List Value):∃W,W=w.alloc (.cells l1.toArray t1)/\BoxN W w.heap.size t1 l1/\Below w.heap.size w W:=
 ⟨_,rfl,BoxN.new w t1 l1,(Below.refl _ w).alloc (Nat.le_refl _) _⟩
theorem zbt (w:World)(t1:TypeId)(l1:List Value)(t2:TypeId)(l2:List Value):∃W,W=(w.alloc (.cells l1.toArray t1)).alloc (.cells l2.toArray t2)/\BoxN W w.heap.size t1 l1/\BoxN W (w.heap.size+1) t2 l2/\Below w.heap.size w W:=
 ⟨_,rfl,(BoxN.new w t1 l1).alloc _,by have:=BoxN.new (w.alloc (.cells l1.toArray t1)) t2 l2;rwa [World.size_alloc] at this,((Below.refl _ w).alloc (Nat.le_refl _) _).alloc (by simp) _⟩
theorem zbG (w:World)(t1:TypeId)(l1:List Value)(t2:TypeId)(l2:List Value)(t3:TypeId)(l3:List Value):∃W,W=((w.alloc (.cells l1.toArray t1)).alloc (.cells l2.toArray t2)).alloc (.cells l3.toArray t3)/\BoxN W w.heap.size t1 l1/\BoxN W (w.heap.size+1) t2 l2/\BoxN W (w.heap.size+1+1) t3 l3/\Below w.heap.size w W:=by
 obtain⟨V,hV,a1,a2,hb⟩:=zbt w t1 l1 t2 l2;have hs:V.heap.size=w.heap.size+1+1:=by rw[hV,World.size_alloc,World.size_alloc]
 refine⟨_,by rw[<-hV],a1.alloc _,a2.alloc _,?_,hb.alloc (by omega) _⟩;have:=BoxN.new V t3 l3
 rwa [hs] at this
theorem BoxN.new' {W:World}{n:Nat}(h:W.heap.size=n)(t:TypeId)(l:List Value):BoxN (W.alloc (.cells l.toArray t)) n t l:=by rw[<-h];exact BoxN.new W t l
theorem zak {W:World}{rb:Nat}{t:TypeId}{l:List Value}(hl:l.length=3)(h:BoxN W rb t l)(c0 c1 c2:Value):BoxN (((W.setCell ⟨rb,0,none⟩ c0).setCell ⟨rb,1,none⟩ c1).setCell ⟨rb,2,none⟩ c2) rb t [c0,c1,c2]:=by
 have b:=((h.set 0 c0).set 1 c1).set 2 c2
 match l,hl with
 | [_,_,_],_=>exact b
theorem zae {W w:World}{n rb:Nat}(h:Below n w W)(hn:n<=rb)(c0 c1 c2:Value):Below n w (((W.setCell ⟨rb,0,none⟩ c0).setCell ⟨rb,1,none⟩ c1).setCell ⟨rb,2,none⟩ c2):=
 ((h.setCell (p:=⟨rb,0,none⟩) hn c0).setCell (p:=⟨rb,1,none⟩) hn c1).setCell (p:=⟨rb,2,none⟩) hn c2
def zac (d:Dt):List Dt:=if 0<d.dict.length then d.dict else d.kids
def zqp (w:World)(l:List Dt)(e:Ending)(w':World):Prop:=∃p c,e=.returned (.slice p l.length c)/\M.At (fun _=>True) w' (.many 6 (l.map dtR)) (.slice p l.length c)/\Below w.heap.size w w'
theorem zl7 {w:World}{d:Dt}{ds:List Value}(hd:DAt (fun _=>True) w d ds):Calls Tryz.prog 67 #[.agg ds.toArray] w (zqp w (zac d)):=by
 obtain⟨bp,bc,kp,kc,dp,dc,rfl,-,hk,hdd⟩:=hd.shape;have HK:=zh hk;have HD:=zh hdd;clear hk hdd hd;have hB:Below w.heap.size w (w.alloc (.cells #[.int .i64 d.len,.int .i64 d.off,.int .i64 d.nul,.slice bp d.bufs.length bc,.slice kp d.kids.length kc,.slice dp d.dict.length dc] 46)):=(Below.refl _ w).alloc (Nat.le_refl _) _;have HB:=zh hB;clear hB;by_cases h:0<d.dict.length
 ·have HE:=zh (show zac d=d.dict from if_pos h)
  go_in
  go_wp2_with fail;rw[HE.o];go_ret;exact⟨_,_,rfl,HD.o.below HB.o,HB.o⟩
 ·have HE:=zh (show zac d=d.kids from if_neg h)
  go_in
  go_wp2_with fail;rw[HE.o];go_ret;exact⟨_,_,rfl,HK.o.below HB.o,HB.o⟩
def endsF:Fd:=.mk ⟨#[101,110,100,115]⟩ false 5 0 0 0 []
def zat (f:Fd)(k:Nat):Fd:=if f.k=20 then(if k=0 then endsF else f.kids[0]?.getD endsF) else f.kids[k]?.getD endsF
def zkN (w:World)(g:Fd)(e:Ending)(w':World):Prop:=∃p cap,e=.returned (.agg #[.string g.nm,.bool g.nl,.int .i64 g.k,.int .i64 g.wd,.int .i64 g.id,.int .i64 g.ix,.slice p g.kids.length cap]) /\
 FdAt w' g (f7 g p cap)/\Below w.heap.size w w'
theorem ziT {fn:Func}{i:Nat}(hfn:fn.results=#[.cell i 26]){W:World}{tmps:Array Value}{rb:Nat}{c0 c1 c2 c3 c4 c5 c6:Value}(ht:tmps.getD i undef=.pointer (some ⟨rb,0,none⟩))(hw:RowAt W rb [c0,c1,c2,c3,c4,c5,c6]) :
  (results fn tmps).run Tryz.prog W=.ok (.agg #[c0,c1,c2,c3,c4,c5,c6]) W:=by
 have h0:=hw 0 _ rfl;have h1:=hw 1 _ rfl;have h2:=hw 2 _ rfl;have h3:=hw 3 _ rfl;have h4:=hw 4 _ rfl;have h5:=hw 5 _ rfl;have h6:=hw 6 _ rfl;rw[Array.getD_eq_getD_getElem?] at ht;simp[results,hfn,go_sem,ht,h0,h1,h2,h3,h4,h5,h6]
theorem zeM {fn:Func}{i:Nat}(hfn:fn.results=#[.cell i 26]){w W:World}{rb:Nat}{g:Fd}{p:Option Addr}{cap:Nat}(hbx:BoxN W rb 26 (f7 g p cap))
  (hg:FdAt W g (f7 g p cap)) (hB:Below w.heap.size w W)
  {tmps:Array Value} (ht:tmps.getD i undef=.pointer (some ⟨rb,0,none⟩)):bodyPost Tryz.prog fn (zkN w g) Exit.ret { tmps:=tmps,defers:=[] } W:=
 bodyPost_ret (ziT hfn ht hbx.row) rfl ⟨p,cap,rfl,hg,hB⟩
theorem zfI {w:World}{f:Fd}{fs:List Value}(hf:FdAt w f fs)(k:Nat)(hk:(f.k=20->k=0\/0<f.kids.length)/\(f.k≠20->k<f.kids.length)):Calls Tryz.prog 68 #[.agg fs.toArray,.int .i64 k] w (zkN w (zat f k)):=by
 obtain⟨fp,fc,rfl,hL,-⟩:=hf.shape;obtain⟨_,_,e,hr1,hr2,hC⟩:=hL;cases e;have HC:=zh hC;unfold maxLen at hr2;have hB:Below w.heap.size w ((w.alloc (.cells #[.string f.nm,.bool f.nl,.int .i64 f.k,.int .i64 f.wd,.int .i64 f.id,.int .i64 f.ix,.slice fp f.kids.length fc] 26))):=(Below.refl _ w).alloc (Nat.le_refl _) _;have HB:=zh hB;have hsz:(w.alloc (.cells #[.string f.nm,.bool f.nl,.int .i64 f.k,.int .i64 f.wd,.int .i64 f.id,.int .i64 f.ix,.slice fp f.kids.length fc] 26)).heap.size=w.heap.size+1:=World.size_alloc _ _;have HSZ:=zh hsz;clear hf hC hB hsz;have done:∀(j:Nat) (hj:j<f.kids.length) (ms:Bool),True:=fun _ _ _=>trivial;clear done;cases q20:(f.k == 20) with
 | true=>
  have e20:f.k=20:=by simpa using q20
  cases qk:((k:Int) == 0) with
  | true=>
   have ek:k=0:=by have:(k:Int)=0:=(by simpa using qk);omega
   have HE:=zh (show zat f k=endsF by unfold zat;rw[if_pos e20,if_pos ek]);clear e20 ek hk
   go_in
   go_wp2_with fail;rw[HE.o];refine zeM (i:=4) (g:=endsF) (p:=none) (cap:=0) rfl (BoxN.new' HSZ.o _ _) ?_ (HB.o.alloc HB.o.size _) rfl;simp only[FdAt,endsF];exact⟨by decide,⟨by decide,by decide⟩,⟨by decide,by decide⟩,⟨by decide,by decide⟩,⟨by decide,by decide⟩,none,0,rfl,Nat.le_refl _,Nat.zero_le _,trivial⟩
  | false=>
   have ek:k≠0:=by
    intro e;subst e;simp at qk
   have h0:0<f.kids.length:=by rcases hk.1 e20 with e|e <;> first|exact e|exact absurd e ek
   have HE:=zh (show zat f k=f.kids[0] by unfold zat;rw[if_pos e20,if_neg ek,List.getElem?_eq_getElem h0];rfl);obtain⟨b,o,p1,c1,rfl,g1,s0,s1,s2,s3,s4,s5,s6⟩:=HC.o.seven 0 h0;simp only[Nat.zero_mul,Nat.add_zero] at s0 s1 s2 s3 s4 s5 s6;have G1:=zh g1;have hblk:=World.block_lt_of_cell? w _ s0;simp only at hblk;rw[HE.o];have h0z:(0:Int)<(f.kids.length:Int):=by omega
   generalize f.kids[0]=g at *;clear e20 ek hk h0 HE g1
   go_in
   go_wp2_with fail;exact zeM (i:=4) rfl (BoxN.new' HSZ.o _ _) ((G1.o.below HB.o).below ((Below.refl _ _).alloc (Nat.le_refl _) _)) (HB.o.alloc HB.o.size _) rfl
 | false=>
  have e20:f.k≠20:=by simpa using q20
  have h0:k<f.kids.length:=hk.2 e20;have HE:=zh (show zat f k=f.kids[k] by unfold zat;rw[if_neg e20,List.getElem?_eq_getElem h0];rfl);obtain⟨b,o,p1,c1,rfl,g1,s0,s1,s2,s3,s4,s5,s6⟩:=HC.o.seven k h0;have G1:=zh g1;have hblk:=World.block_lt_of_cell? w _ s0;simp only at hblk;rw[HE.o];generalize f.kids[k]=g at *;clear e20 hk HE g1
  go_in
  go_wp2_with fail;exact zeM (i:=4) rfl (BoxN.new' HSZ.o _ _) ((G1.o.below HB.o).below ((Below.refl _ _).alloc (Nat.le_refl _) _)) (HB.o.alloc HB.o.size _) rfl
def zc7 (f:Fd)(d:Dt)(n o:Nat):Int:=if d.nul≠(zcQ f.k d.bufs o n:Int)\/(0<zcQ f.k d.bufs o n/\f.nl=false) then 81 else 0
theorem zjt {w:World}{f:Fd}{d:Dt}{fs ds:List Value}(hf:FdAt w f fs)(hd:DAt (fun _=>True) w d ds)(hs:zbX f.k=true->0<d.bufs.length){n o:Nat}(hn:d.len=n)(ho:d.off=o)(hb:n<=8192/\o<=8192) :
  Calls Tryz.prog 85 #[.agg fs.toArray,.agg ds.toArray] w (zcP w (zc7 f d n o)):=by
 have HF:=zh hf;have HD:=zh hd;obtain⟨fp,fc,rfl,-⟩:=hf.shape;obtain⟨bp,bc,kp,kc,dp,dc,rfl,-,-,-⟩:=hd.shape;have HS:=zh hs;have HN:=zh (And.intro hn (And.intro ho hb));clear hf hd hs hn ho hb;obtain⟨W,hW,a1,a2,a3,hBW⟩:=zbG w 26 (f7 f fp fc) 46 (d6 d bp bc kp kc dp dc) 69 [.int .i64 0,.slice none 0 0,.int .i64 0];have A1:=zh a1;have A2:=zh a2;have A3:=zh a3;have HBW:=zh hBW;have HW:=zh hW;clear a1 a2 a3 hBW hW
 go_in
 go_wp2_with fail;rw[<-HW.o];clear HW;refine(zl6 (HF.o.below HBW.o) (HD.o.below HBW.o) HS.o HN.o.1 HN.o.2.1 HN.o.2.2).mono ?_;rintro e W2 ⟨rfl,hb2⟩;have HB2:=zh (HBW.o.trans (hb2.mono HBW.o.size));have B1:=A1.o.below hb2 A1.o.lt;have B2:=A2.o.below hb2 A2.o.lt;have BB3:=zh (A3.o.below hb2 A3.o.lt);have p1:=B1.row 1 _ rfl;have r2:=B2.row 2 _ rfl;obtain⟨q0,q1,q2⟩:=rr3 BB3.o.row;obtain⟨z0,z1,z2⟩:=ff3 BB3.o;have hl1:=B1.lt;have hl2:=B2.lt;have hl3:=BB3.o.lt;clear B1 B2 hb2;obtain⟨c,hc⟩:=nm (zcQ f.k d.bufs o n);have HNE:=zh (show zc7 f d n o=if d.nul≠(c:Int)\/(0<c/\f.nl=false) then 81 else 0 by rw[hc];rfl);rw[<-hc];clear hc;cases e1:(d.nul != (c:Int)) with
 | true=>
  have HE:=zh (show zc7 f d n o=81 by rw[HNE.o,if_pos (.inl (by simpa using e1))]);go_wp2_with fail;refine(zar 81 1 W2).mono ?_;rintro e W3 ⟨dd,path,at',rfl,hw3,hb3⟩;have BB4:=zh (BB3.o.below hb3 BB3.o.lt);have HB3:=zh (HB2.o.trans (hb3.mono HB2.o.size));have HWV:=zh hw3;obtain⟨pq,pc,rfl,-⟩:=hw3;clear p1 r2 q0 q1 q2 z0 z1 z2 hl1 hl2 hl3 hb3;obtain⟨q0,q1,q2⟩:=rr3 BB4.o.row;obtain⟨z0,z1,z2⟩:=ff3 BB4.o;have hl3:=BB4.o.lt;go_wp2_with fail;rw[HE.o];exact zal (i:=4) rfl (zak rfl BB4.o _ _ _) HWV.o (zae HB3.o (by omega) _ _ _) rfl
 | false=>
  have e1':d.nul=(c:Int):=by simpa using e1
  cases e2:decide ((0:Int)<(c:Int)) with
  | false=>
   have e2':¬0<c:=by have:=of_decide_eq_false e2;omega
   have e2n:decide (0<c)=false:=decide_eq_false e2';have HE:=zh (show zc7 f d n o=0 by rw[HNE.o,if_neg (by omega)]);clear e1' e2';go_wp2_with fail;rw[HE.o];exact zal (i:=4) rfl (zak rfl BB3.o _ _ _) zcE (zae HB2.o (by omega) _ _ _) rfl
  | true=>
   have e2':0<c:=by have:=of_decide_eq_true e2;omega
   have e2n:decide (0<c)=true:=decide_eq_true e2';cases hnl:f.nl with
   | true=>
    have HE:=zh (show zc7 f d n o=0 by rw[HNE.o,if_neg (by simp[e1',hnl])]);rw[hnl] at p1;clear e1' e2' hnl;go_wp2_with fail;rw[HE.o];exact zal (i:=4) rfl (zak rfl BB3.o _ _ _) zcE (zae HB2.o (by omega) _ _ _) rfl
   | false=>
    have HE:=zh (show zc7 f d n o=81 by rw[HNE.o,if_pos (.inr ⟨e2',hnl⟩)]);rw[hnl] at p1;clear e1' e2' hnl;go_wp2_with fail;refine(zar 81 1 W2).mono ?_;rintro e W3 ⟨dd,path,at',rfl,hw3,hb3⟩;have BB4:=zh (BB3.o.below hb3 BB3.o.lt);have HB3:=zh (HB2.o.trans (hb3.mono HB2.o.size));have HWV:=zh hw3;obtain⟨pq,pc,rfl,-⟩:=hw3;clear p1 r2 q0 q1 q2 z0 z1 z2 hl1 hl2 hl3 hb3;obtain⟨q0,q1,q2⟩:=rr3 BB4.o.row;obtain⟨z0,z1,z2⟩:=ff3 BB4.o;have hl3:=BB4.o.lt;go_wp2_with fail;rw[HE.o];exact zal (i:=4) rfl (zak rfl BB4.o _ _ _) HWV.o (zae HB3.o (by omega) _ _ _) rfl
theorem zm7 (q:Option Addr)(n c:Nat)(w:World)(h:n<=c)(hc:c<=2 ^ 63-1):Calls Tryz.prog 116 #[.slice q n c] w (zaz w (.slice q n n)):=by
 go_in
 go_wp2_with fail;go_ret;exact zav rfl rfl
theorem zg8 {w:World}{L:List Fd}{v:Value}(h:FdsAt w L v)(hsm:L.length<=1000000000000)
  (ih:∀g ∈ L,∀(w:World) (v:Value),FdsAt w g.kids v->Calls Tryz.prog 109 #[v] w (zft w g.kids)) :
  Calls Tryz.prog 109 #[v] w (zft w L):=by
 obtain⟨i1,z1,hi1,hz1,hzc1,hsz1,hby1⟩:=zet;obtain⟨p,cap,rfl,hl,hm,hC⟩:=h;unfold maxLen at hm;have HC:=zh hC;have HI:=zh ih;clear ih hC
 go_in
 go_wp2_with fail
 go_loopw [3,8] (fun l i wr=>∃(k:Nat) (q:Option Addr) (c:Nat) (css:List (List Value)),k<=L.length/\l=.slice q k c/\i=.int .i64 k/\Hid (RowF wr w.heap.size (.slice q k c) (L.take k) css)/\Hid (Below w.heap.size w wr)) (fun _ i _=>L.length-(intOf i).toNat)
 case atStart=>exact⟨0,none,0,[],by omega,rfl,rfl,zh (RowF.nil _ _),zh (Below.refl _ _)⟩
 case round=>
  obtain⟨k,q,c,css,hk,rfl,rfl,HR,HB⟩:=hrel;have hsz:=HB.o.size;by_cases hlt:k<L.length
  ·obtain⟨b',o',fq,cap',rfl,e3,c0,c1,c2,c3,c4,c5,c6⟩:=HC.o.seven k hlt;have E3:=zh (e3.below HB.o);replace c0:=zaa HB.o c0;replace c1:=zaa HB.o c1;replace c2:=zaa HB.o c2;replace c3:=zaa HB.o c3;replace c4:=zaa HB.o c4;replace c5:=zaa HB.o c5;replace c6:=zaa HB.o c6;have HIG:=zh (HI.o L[k] (List.getElem_mem hlt));have HTK:=zh (List.take_succ_eq_append_getElem hlt);clear e3;generalize hg:L[k]=g at *;have HG:=zh hg;clear hg;go_wp2_with fail;obtain⟨A,hA⟩:=nm (wr.alloc (.cells #[.string g.nm,.bool g.nl,.int .i64 g.k,.int .i64 g.wd,.int .i64 g.id,.int .i64 g.ix,.slice fq g.kids.length cap'] 26));have BA:Below wr.heap.size wr A:=by rw[hA];exact(Below.refl _ wr).alloc (Nat.le_refl _) _
   have a1:BoxN A wr.heap.size 26 (f7 g fq cap'):=by rw[hA];exact BoxN.new wr 26 _
   rw[<-hA];clear hA;obtain⟨_,_,esh,hkd,hnm,ik,iw,ii,ix'⟩:=E3.o.shape;cases esh;refine(HIG.o A _ (hkd.below BA)).mono ?_;rintro e W1 ⟨p1,cap1,rfl,⟨hr1,hr2⟩,hfd,hb1⟩;have B1:=zh (a1.below hb1 a1.lt);have hasz:wr.heap.size<A.heap.size:=a1.lt;have BA1:=zh (BA.trans (hb1.mono BA.size));have HFD:=zh hfd;have HNM:=zh hnm;have HII:=zh (And.intro ik (And.intro iw (And.intro ii ix')));have HRR:=zh (And.intro hr1 hr2);clear hkd a1 BA hb1 hfd hnm ik iw ii ix' hr1 hr2 c0 c1 c2 c3 c4 c5 c6;obtain⟨r0,r1,r2,r3,r4,r5,r6⟩:=rr7 B1.o.row;have x6:=B1.o.frozen 6;have hlb:=B1.o.lt;have hb2':Below wr.heap.size wr (W1.setCell ⟨wr.heap.size,6,none⟩ (.slice p1 g.kids.length cap1)):=BA1.o.setCell (p:=⟨wr.heap.size,6,none⟩) (Nat.le_refl _) _;have hgS:FdS (fun b=>A.heap.size<=b) (W1.setCell ⟨wr.heap.size,6,none⟩ (.slice p1 g.kids.length cap1)) g (f7 g p1 cap1):=by
    have h1:FdS (fun b=>A.heap.size<=b) W1 g (f7 g p1 cap1):=by
     obtain⟨q1,q2,q3,q4⟩:=HII.o;cases g with
     | mk nm nl fk wd id ix kids=>exact FdS.mk' HNM.o q1 q2 q3 q4 HRR.o.1 HRR.o.2 HFD.o
    exact h1.keep (fun b hs hlt=>⟨Below.heap_setCell _ _ _ b (by show b≠wr.heap.size;omega),hs⟩)
   have hsE:(W1.setCell ⟨wr.heap.size,6,none⟩ (.slice p1 g.kids.length cap1)).heap.size=W1.heap.size:=by simp
   have hR1:=HR.o.below hb2';have htk:(L.take k).length=k:=by rw[List.length_take];omega
   have hown1:(W1.setCell ⟨wr.heap.size,6,none⟩ (.slice p1 g.kids.length cap1)).ownsRow w.heap.size 26 7 (.slice q k c) k (css.flatMap id):=by have:=hR1.own;rwa [htk] at this
   have hoff:∀j,(Value.slice q k c).ownBlock=some j->j<wr.heap.size:=fun j e=>(HR.o.own.lt j e).2;have hfd1:FdS (fun b=>w.heap.size<=b/\(Value.slice q k c).ownBlock≠some b) (W1.setCell ⟨wr.heap.size,6,none⟩ (.slice p1 g.kids.length cap1)) g _:=hgS.mono (fun b hb=>⟨by omega,fun e=>by have:=hoff b e;omega⟩);have HR1:=zh hR1;have HO1:=zh hown1;have HF1:=zh hfd1;have HB2:=zh (HB.o.trans (hb2'.mono hsz));have HTL:=zh htk;have hZ:=BoxN.new (W1.setCell ⟨wr.heap.size,6,none⟩ (.slice p1 g.kids.length cap1)) 26 [Value.string g.nm,.bool g.nl,.int .i64 g.k,.int .i64 g.wd,.int .i64 g.id,.int .i64 g.ix,.slice p1 g.kids.length cap1];rw[hsE] at hZ;have HZ:=zh hZ;have hs1:=HB2.o.size;rw[hsE] at hs1;have HSE:=zh hsE;clear hb2' hR1 hown1 hfd1 hoff hZ htk hgS hsE;go_wp2_with (at_builtin;refine wpList_append_lies _ rfl _ _ 22 rfl w.heap.size 26 i1 z1 7 80 zfH hi1 hz1 hsz1 hby1 hzc1 (by decide) (.slice q k c) k (css.flatMap id) rfl (HO1.o.alloc _) ⟨W1.heap.size,0,none⟩ 1 1 [Value.string g.nm,.bool g.nl,.int .i64 g.k,.int .i64 g.wd,.int .i64 g.id,.int .i64 g.ix,.slice p1 g.kids.length cap1] rfl rfl (World.news_of_block HZ.o) (by simp[Value.oneCell']) (by decide) (by unfold maxLen;omega) (by omega) (by simp;omega) (W1.heap.size+1) (by simp) ?_;intro gg cc w2 hown2 hgrow2 hat2 hlt2);refine⟨⟨k+1,some ⟨gg,0,none⟩,cc,css ++ [[Value.string g.nm,.bool g.nl,.int .i64 g.k,.int .i64 g.wd,.int .i64 g.id,.int .i64 g.ix,.slice p1 g.kids.length cap1]],by omega,rfl,by go_num,zh ?_,zh ((HB2.o.alloc HB2.o.size _).grown hgrow2 (by have:=HB2.o.size;simp;omega) (fun j e=>(HO1.o.lt j e).1))⟩,by simp[intOf];omega⟩;rw[HTK.o];exact(HR1.o.below ((Below.refl _ _).alloc (Nat.le_refl _) _)).push (HF1.o.below ((Below.refl _ _).alloc (Nat.le_refl _) _)) HTL.o hown2 hgrow2 (by rw[World.size_alloc,HSE.o];exact hat2)
  ·have hkl:k=L.length:=by omega
   have HKL:=zh hkl;have hR:=HR.o;rw[HKL.o,List.take_length] at hR;have hlist:=zh hR.list;have hroom:=hR.room;subst hkl;have hcz:=hroom.1;have hcm:=hroom.2;unfold maxLen at hcm;clear hR;go_wp2_with fail;refine(zm7 q L.length c wr hcz hcm).mono ?_;rintro e W2 ⟨rfl,rfl⟩;go_wp2_with fail;go_ret;exact⟨q,L.length,rfl,⟨Nat.le_refl _,by omega⟩,hlist.o,HB.o⟩
theorem zkq (f:Fd):okF f->∀(w:World) (v:Value),FdsAt w f.kids v->Calls Tryz.prog 109 #[v] w (zft w f.kids):=
 zg6 (P:=fun f=>okF f->∀(w:World) (v:Value),FdsAt w f.kids v->Calls Tryz.prog 109 #[v] w (zft w f.kids)) (fun f ih ho w v hv=>by
  obtain⟨_,hk,hl⟩:=zgi ho;exact zg8 hv (by omega) (fun g hg w v h=>ih g hg (zeL hl g hg) w v h)) f
theorem zju {w:World}{L:List Fd}{v:Value}(h:FdsAt w L v)(ho:okL L)(hl:L.length<=32):Calls Tryz.prog 109 #[v] w (zft w L):=
 zg8 h (by omega) (fun g hg w v h=>zkq g (zeL ho g hg) w v h)
def zdx:ByteArray:=⟨#[97]⟩
def zb1 (f:Fd):Fd:=f.named zdx (decide (f.k=1) || ((decide (f.k=20) && decide (0<f.kids.length)) && zc4 f))
theorem zm8 {f:Fd}(h:0<f.kids.length):zc4 f=(f.kids[0]).nl:=by
 cases f with
 | mk nm nl k wd id ix kids=>
  cases kids with
  | nil=>cases h
  | cons g t=>rfl
theorem zkO {w:World}{f:Fd}{p:Option Addr}{c:Nat}(hf:FdAt w f (f7 f p c)) :
  Calls Tryz.prog 108 #[.agg #[.int .i64 f.k,.int .i64 f.wd,.int .i64 f.id,.int .i64 f.ix,.slice p f.kids.length c]] w (zkN w (zb1 f)):=by
 obtain⟨_,_,e,hL,-⟩:=hf.shape;cases e;obtain⟨_,_,e,hr1,hr2,hC⟩:=hL;cases e;have HF:=zh hf;have HC:=zh hC;unfold maxLen at hr2;clear hf hC;have HN:∀nl:Bool,Hid (FdAt w (f.named zdx nl) [.string zdx,.bool nl,.int .i64 f.k,.int .i64 f.wd,.int .i64 f.id,.int .i64 f.ix,.slice p f.kids.length c]):=fun nl=>zh (HF.o.named (by decide) nl);have HSZ:=zh (show(w.alloc (.cells #[.int .i64 f.k,.int .i64 f.wd,.int .i64 f.id,.int .i64 f.ix,.slice p f.kids.length c] 24)).heap.size=w.heap.size+1 from World.size_alloc _ _);have HB:∀nl:Bool,Hid (Below w.heap.size w (((w.alloc (.cells #[.int .i64 f.k,.int .i64 f.wd,.int .i64 f.id,.int .i64 f.ix,.slice p f.kids.length c] 24)).alloc (.cells #[.string zdx,.bool nl,.int .i64 f.k,.int .i64 f.wd,.int .i64 f.id,.int .i64 f.ix,.slice p f.kids.length c] 26)).alloc (.cells #[.string zdx,.bool nl,.int .i64 f.k,.int .i64 f.wd,.int .i64 f.id,.int .i64 f.ix,.slice p f.kids.length c] 26))):=fun nl=>zh (((((Below.refl _ w).alloc (Nat.le_refl _) _).alloc (by simp) _).alloc (by simp;omega) _));have HH:=zh (show zb1 f=f.named zdx (decide (f.k=1) || ((decide (f.k=20) && decide (0<f.kids.length)) && zc4 f)) from rfl);cases q1:(f.k == 1) with
 | true=>
  have HE:=zh (show zb1 f=f.named zdx true by rw[HH.o,show decide (f.k=1)=true by simpa using q1];rfl)
  go_in
  go_wp2_with fail;rw[HE.o];exact zeM (i:=2) (g:=f.named zdx true) rfl ((BoxN.new' HSZ.o _ _).alloc _) ((HN true).o.below (HB true).o) (HB true).o rfl
 | false=>
  cases q2:(f.k == 20) with
  | false=>
   have HE:=zh (show zb1 f=f.named zdx false by rw[HH.o,show decide (f.k=1)=false by simpa using q1,show decide (f.k=20)=false by simpa using q2];rfl)
   go_in
   go_wp2_with fail;rw[HE.o];exact zeM (i:=2) (g:=f.named zdx false) rfl ((BoxN.new' HSZ.o _ _).alloc _) ((HN false).o.below (HB false).o) (HB false).o rfl
  | true=>
   cases hkd:decide (0<f.kids.length) with
   | false=>
    have HE:=zh (show zb1 f=f.named zdx false by rw[HH.o,show decide (f.k=1)=false by simpa using q1,hkd,Bool.and_false];rfl)
    go_in
    go_wp2_with fail;rw[HE.o];exact zeM (i:=2) (g:=f.named zdx false) rfl ((BoxN.new' HSZ.o _ _).alloc _) ((HN false).o.below (HB false).o) (HB false).o rfl
   | true=>
    have h0:0<f.kids.length:=by simpa using hkd
    obtain⟨b,o,p1,c1,rfl,g1,s0,s1,s2,s3,s4,s5,s6⟩:=HC.o.seven 0 h0;simp only[Nat.zero_mul,Nat.add_zero] at s0 s1 s2 s3 s4 s5 s6;have HE:=zh (show zb1 f=f.named zdx (f.kids[0]).nl by
     rw[HH.o,show decide (f.k=1)=false by simpa using q1,show decide (f.k=20)=true by simpa using q2,hkd];rw[zm8 h0];rfl)
    have hblk:=World.block_lt_of_cell? w _ s0;simp only at hblk;have hblk1:b<w.heap.size+1:=by omega
    have hblk2:b<w.heap.size+1+1:=by omega
    have hblk3:b<w.heap.size+1+1+1:=by omega
    have h0z:(0:Int)<(f.kids.length:Int):=by omega
    generalize (f.kids[0]).nl=nl at *;clear s0 s2 s3 s4 s5 s6 g1
    go_in
    go_wp2_with fail;rw[HE.o];exact zeM (i:=2) (g:=f.named zdx nl) rfl ((BoxN.new' HSZ.o _ _).alloc _) ((HN nl).o.below (HB nl).o) (HB nl).o rfl
theorem zob {w:World}{f:Fd}{p:Option Addr}{c:Nat}(hf:FdAt w f (f7 f p c)){b:Nat}(hb:BoxN w b 26 (f7 f p c)) :
  FdsAt w [f] (.slice (some ⟨b,0,none⟩) 1 1):=by
 refine⟨some ⟨b,0,none⟩,1,rfl,Nat.le_refl _,by decide,?_⟩;simp only[FdsC];exact⟨⟨b,0,_,rfl,fun j u hj=>by have:=hb.row j u hj;simpa using this,hf⟩,trivial⟩
theorem zdg {w:World}{f:Fd}{fs:List Value}(hf:FdAt w f fs)(hS:SaysAt w):Calls Tryz.prog 30 #[.agg fs.toArray] w (zfG w (zbh f)):=by
 obtain⟨p,c,rfl,-⟩:=hf.shape;have HF:=zh hf;have HS:=zh hS;clear hf hS;obtain⟨W,hW,a1,a2,a3,hBW⟩:=zbG w 26 (f7 f p c) 69 [.int .i64 0,.slice none 0 0,.int .i64 0] 26 (f7 f p c);have A2:=zh a2;have A3:=zh a3;have HBW:=zh hBW;have HW:=zh hW;clear a1 a2 a3 hBW hW
 go_in
 go_wp2_with fail;rw[<-HW.o];clear HW;refine(zl5 (L:=[f]) (NS:=[]) (zob (HF.o.below HBW.o) A3.o) ⟨none,0,rfl,Nat.le_refl _,Nat.zero_le _,fun i hi=>absurd hi (Nat.not_lt_zero _)⟩ (HS.o.below HBW.o)).mono ?_;rintro e W2 ⟨d,path,at',rfl,hw,hb2⟩;rw[show zhR [f] (zf9 [])=zbh f from rfl];obtain⟨pq,pc,rfl,hd1,hd2,hd3⟩:=hw;have BB:=zh (A2.o.below hb2 A2.o.lt);have HB2:=zh (HBW.o.trans (hb2.mono HBW.o.size));obtain⟨q0,q1,q2⟩:=rr3 BB.o.row;obtain⟨z0,z1,z2⟩:=ff3 BB.o;have hl:=BB.o.lt;have hd3':=zh hd3;unfold maxLen at hd2;clear hb2 hd3;cases hz:decide (0<d) with
 | false=>
  have e0:d=0:=by have:=of_decide_eq_false hz;omega
  go_wp2_with fail;exact zev (i:=2) rfl ((zak rfl BB.o _ _ _).alloc _) ⟨pq,pc,rfl,Nat.zero_le _,by unfold maxLen;omega,fun _=>rfl⟩ ((zae HB2.o (by omega) _ _ _).alloc (zae HB2.o (by omega) _ _ _).size _) rfl
 | true=>
  have e0:0<d:=of_decide_eq_true hz;cases pq with
  | none=>exact absurd (hd3'.o rfl) (by omega)
  | some a=>
  go_wp2_with fail
  ·exact zev (i:=2) rfl ((zak rfl BB.o _ _ _).alloc _) ⟨_,_,rfl,by omega,by decide,fun h=>by cases h⟩ ((zae HB2.o (by omega) _ _ _).alloc (zae HB2.o (by omega) _ _ _).size _) rfl
  ·exact zev (i:=2) rfl ((zak rfl BB.o _ _ _).alloc _) ⟨_,_,rfl,by omega,by unfold maxLen;omega,fun h=>by cases h⟩ ((zae HB2.o (by omega) _ _ _).alloc (zae HB2.o (by omega) _ _ _).size _) rfl
def zdh (f:Fd):Bool:=zbh (zb1 f) == 0
def zew (k:Int):Int:=if k=3\/k=7 then 1 else if k=4\/k=8 then 2 else if k=5\/k=9 then 4 else if k=6\/k=10\/k=11 then 8 else 0
theorem zgl {w:World}{f:Fd}{p:Option Addr}{c:Nat}(hf:FdAt w f (f7 f p c))(hS:SaysAt w) :
  Calls Tryz.prog 97 #[.agg #[.int .i64 f.k,.int .i64 f.wd,.int .i64 f.id,.int .i64 f.ix,.slice p f.kids.length c]] w (ziq w (zdh f)):=by
 have HF:=zh hf;have HS:=zh hS;clear hf hS;obtain⟨W,hW,-,hBW⟩:=zao w 24 [.int .i64 f.k,.int .i64 f.wd,.int .i64 f.id,.int .i64 f.ix,.slice p f.kids.length c];have HBW:=zh hBW;have HW:=zh hW;clear hBW hW
 go_in
 go_wp2_with fail;rw[<-HW.o];clear HW;refine(zkO (HF.o.below HBW.o)).mono ?_;rintro e W2 ⟨q,d,rfl,hg,hb2⟩;have HB2:=zh (HBW.o.trans (hb2.mono HBW.o.size));have HG:=zh hg;clear hb2 hg;have HM:=zh (show zdh f=(zbh (zb1 f) == 0) from rfl);obtain⟨g,hg⟩:=nm (zb1 f);rw[<-hg] at HG HM ⊢;clear hg;go_wp2_with fail;refine(zdg HG.o (HS.o.below HB2.o)).mono ?_;rintro e W3 ⟨d3,path,at3,rfl,⟨q3,c3,rfl,-,-,-⟩,hb3⟩;have HB3:=zh (HB2.o.trans (hb3.mono HB2.o.size));clear hb3;obtain⟨fe,hfe⟩:=nm (zbh g);rw[<-hfe] at HM ⊢;clear hfe;have hfd:=zjs fe at3 q3 d3 c3 W3;go_wp2_with fail;rw[HM.o];go_ret;exact zei rfl HB3.o
end Go.Fld
