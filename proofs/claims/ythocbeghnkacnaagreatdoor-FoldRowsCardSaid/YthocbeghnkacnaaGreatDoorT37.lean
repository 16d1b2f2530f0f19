import Derived.Test.YthocbeghnkacnaaGreatDoorT36
import Derived.RangeFuncFrom
set_option linter.unusedVariables false
set_option linter.unusedSimpArgs false
set_option linter.unnecessarySimpa false
set_option maxRecDepth 100000
set_option maxHeartbeats 16000000
namespace Go.Fld
open Go Go.RowKit Go.Proofs Go.ChangeShapes Go.WideShapes Go.ChangeAt Go.Shelf Go.Fld.Late
def Bare (R:Nat->Prop)(w:World):Prop:=∀k,R k->∃o:Obj,w.heap[k]?=some o/\o.isCells=false
theorem Bare.not {R:Nat->Prop}{w:World}(hR:Bare R w){b:Nat}{o:Obj}(hb:w.heap[b]?=some o)(ho:o.isCells=true):¬R b:=fun h=>by
 obtain⟨o',h1,h2⟩:=hR b h;rw[hb] at h1;cases h1;rw[ho] at h2;cases h2
theorem Bare.box {R:Nat->Prop}{w:World}(hR:Bare R w){b:Nat}{t:TypeId}{l:List Value}(hb:BoxN w b t l):¬R b:=hR.not hb rfl
namespace M
mutual
theorem At.narrow {S R:Nat->Prop}{w:World}(hR:Bare R w):∀ {m:M} {v:Value},At S w m v->At (fun k=>S k/\¬R k) w m v
 | .one u,v,h=>by simp only[At] at h ⊢;exact h
 | .many sz rows,v,h=>by
  simp only[At] at h ⊢;obtain⟨p,cap,h1,h2,h3⟩:=h;exact⟨p,cap,h1,h2,RowsAt.narrow hR h3⟩
theorem AtL.narrow {S R:Nat->Prop}{w:World}(hR:Bare R w):∀ {r:List M} {vs:List Value},AtL S w r vs->AtL (fun k=>S k/\¬R k) w r vs
 | [],vs,h=>by simp only[AtL] at h ⊢;exact h
 | m :: r,vs,h=>by
  simp only[AtL] at h ⊢;obtain⟨v,us,h1,h2,h3⟩:=h;exact⟨v,us,h1,At.narrow hR h2,AtL.narrow hR h3⟩
theorem RowsAt.narrow {S R:Nat->Prop}{w:World}(hR:Bare R w){p:Option Addr}{sz:Nat}:∀ {rows:List (List M)} {off:Nat},RowsAt S w p sz off rows->RowsAt (fun k=>S k/\¬R k) w p sz off rows
 | [],off,h=>by simp only[RowsAt]
 | r :: rs,off,h=>by
  simp only[RowsAt] at h ⊢;obtain⟨⟨b,o,cs,h1,hS,h2,h3,h4⟩,h5⟩:=h;have hb:¬R b:=by
   cases hc:cs with
   | nil=>rw[hc] at h2;simp at h2;omega
   | cons u us=>
    obtain⟨o',e1,e2⟩:=cells_of_cell (h3 0 u (by rw[hc];rfl));exact hR.not e1 e2
  exact⟨⟨b,o,cs,h1,⟨hS,hb⟩,h2,h3,AtL.narrow hR h4⟩,RowsAt.narrow hR h5⟩
end
end M
theorem M.AtL.turned {S:Nat->Prop}{w w':World}{row:Option Nat}(hg:w.grownBy w' row)(hr:∀r,row=some r->∃o:Obj,w.heap[r]?=some o/\o.isCells=false){l:List M}{vs:List Value}(h:M.AtL S w l vs):M.AtL S w' l vs:=
 (h.narrow (R:=fun k=>row=some k) hr).keep fun k hk hl=>⟨hg.block k hl (fun e=>hk.2 e.symm),hk.1⟩
theorem M.At.turned {S:Nat->Prop}{w w':World}{row:Option Nat}(hg:w.grownBy w' row)(hr:∀r,row=some r->∃o:Obj,w.heap[r]?=some o/\o.isCells=false){l:M}{vs:Value}(h:M.At S w l vs):M.At S w' l vs:=
 (h.narrow (R:=fun k=>row=some k) hr).keep fun k hk hl=>⟨hg.block k hl (fun e=>hk.2 e.symm),hk.1⟩
theorem BoxN.turned {w w':World}{row:Option Nat}(hg:w.grownBy w' row)(hr:∀r,row=some r->∃o:Obj,w.heap[r]?=some o/\o.isCells=false){b:Nat}{t:TypeId}{l:List Value}(h:BoxN w b t l):BoxN w' b t l:=
 h.kept hg (fun e=>Bare.box (R:=fun k=>row=some k) hr h e.symm)
theorem IntAt.turned {S:Nat->Prop}{w w':World}{row:Option Nat}(hg:w.grownBy w' row)(hr:∀r,row=some r->∃o:Obj,w.heap[r]?=some o/\o.isCells=false){zb:Nat}{z:Int}(h:IntAt S w zb z):IntAt S w' zb z:=by
 obtain⟨l,q,c,h1,h2,h3⟩:=h;exact⟨l,q,c,h1.turned hg hr,h2.turned hg hr,h3⟩
theorem AggAt.turned {O:Nat->Prop}{w w':World}{row:Option Nat}(hg:w.grownBy w' row)(hr:∀r,row=some r->∃o:Obj,w.heap[r]?=some o/\o.isCells=false){b zb:Nat}{s:Agg}(h:AggAt O w b zb s):AggAt O w' b zb s:=by
 obtain⟨h1,h2,t,cs,h3,h4⟩:=h;refine⟨h1,fun k hk=>Nat.lt_of_lt_of_le (h2 k hk) hg.size,t,cs,h3.turned hg hr,?_⟩;cases s with
 | number a n r=>exact h4
 | logic a n l tr=>exact h4
 | floats a n z ab be no so=>
  obtain⟨g1,g2,g3,g4⟩:=h4;exact⟨g1,g2,g3.turned hg hr,g4⟩
 | wholes a n f z=>
  obtain⟨g1,g2,g3,g4⟩:=h4;exact⟨g1,g2,g3.turned hg hr,g4⟩
 | bound a n f most best=>
  obtain⟨g1,fcs,vcs,g2,g3,g4,g5⟩:=h4;exact⟨g1,fcs,vcs,g2,g3,g4.turned hg hr,M.AtL.turned hg hr g5⟩
 | aend a n last one=>
  obtain⟨g1,vcs,g2,g3⟩:=h4;exact⟨g1,vcs,g2,M.AtL.turned hg hr g3⟩
theorem FoldAt.turned {O:Nat->Prop}{w w':World}{row:Option Nat}(hg:w.grownBy w' row)(hr:∀r,row=some r->∃o:Obj,w.heap[r]?=some o/\o.isCells=false){fb b zb:Nat}{op:Int}{f:Fd}{fp:Option Addr}{fc:Nat}{s:Agg}(h:FoldAt O w fb b zb op f fp fc s):FoldAt O w' fb b zb op f fp fc s:=
 ⟨h.box.turned hg hr,h.fld.turned hg hr,h.agg.turned hg hr,h.far⟩
end Go.Fld
namespace Go.Fld
open Go Go.RowKit Go.Proofs Go.ChangeShapes Go.WideShapes Go.ChangeAt Go.Shelf Go.Fld.Late
theorem zjn {W:World}{rb k:Nat}(hk:k≠rb)(c0 c1 c2:Value):(((W.setCell ⟨rb,0,none⟩ c0).setCell ⟨rb,1,none⟩ c1).setCell ⟨rb,2,none⟩ c2).heap[k]?=W.heap[k]?:=by
 rw[Below.heap_setCell _ _ _ k hk,Below.heap_setCell _ _ _ k hk,Below.heap_setCell _ _ _ k hk]
theorem zlN {P:Program}{c:Code}{K:Act->World->Prop}{Q:Exit->Act->World->Prop}{a:Act}{w:World}(h:c.wp P (Exit.then K (fun _ _ _=>False)) a w):c.wp P (Exit.then K Q) a w:=
 wp_mono h (fun e a w h=>by cases e <;> first|exact h|exact h.elim)
theorem zjJ {fn:Func}{i:Nat}(hfn:fn.results=#[.tmp i]){tmps:Array Value}{v:Value}(ht:tmps.getD i undef=v)(W:World):(results fn tmps).run Tryz.prog W=.ok v W:=by
 rw[Array.getD_eq_getD_getElem?] at ht;simp[results,hfn,go_sem,ht]
theorem zo4 {f:FuncId}{args:Array Value}{w:World}{v:Value}(h:Calls Tryz.prog f args w (zaz w v)):Calls Tryz.prog f args w (fun e w'=>e=.returned v/\w'=w):=h
theorem Chg.own {C:Nat->Prop}{w w' w'':World}(h:Below w.heap.size w w')(h':Chg (fun k=>C k\/w'.heap.size<=k) w' w''):Chg C w w'':=
 ⟨h'.os.trans h.os,h'.tape.trans h.tape,h'.output.trans h.output,Nat.le_trans h.size h'.size,fun k hk hc=>(h'.block k (Nat.lt_of_lt_of_le hk h.size) (fun hh=>by
  have:=h.size;rcases hh with hh|hh
  ·exact hc hh
  ·omega)).trans (h.block k hk)⟩
def OpS (fb db xb:Nat)(l9 l6 lx:List Value)(w':World):Prop:=RowAt w' fb l9/\RowAt w' db l6/\RowAt w' xb lx
theorem OpS.below {fb db xb:Nat}{l9 l6 lx:List Value}{w w':World}(h:OpS fb db xb l9 l6 lx w)(hb:Below w.heap.size w w'):OpS fb db xb l9 l6 lx w':=
 ⟨fun i x hx=>zaa hb (h.1 i x hx),fun i x hx=>zaa hb (h.2.1 i x hx),fun i x hx=>zaa hb (h.2.2 i x hx)⟩
structure OpenR (S:Nat->Prop)(w wx:World)(f:Fd)(d:Dt)(eb:Nat)(pp pq:Option Addr)(pd pc:Nat)(ae:Int):Prop where
 below:Below w.heap.size w wx
 box:BoxN wx eb 69 [.int .i64 (zaG f d),.slice pq pd pc,.int .i64 ae]
 new:w.heap.size<=eb
 arr:zaG f d≠0\/(zaG f d=0/\∃b,pp=some ⟨b,0,none⟩/\w.heap.size<=b/\ArrS S wx b f d d.off d.len)
theorem OpenS.one {S:Nat->Prop}{w w':World}{f:Fd}{d:Dt}{e:Ending}(h:OpenS S w f d e w'):Below w.heap.size w w'/\∃(pp pq:Option Addr) (pd pc:Nat) (a:Int),e=.returned (.tuple #[.pointer pp,.agg #[.int .i64 (zaG f d),.slice pq pd pc,.int .i64 a]]) /\
  (zaG f d≠0\/(zaG f d=0/\∃b,pp=some ⟨b,0,none⟩/\w.heap.size<=b/\ArrS S w' b f d d.off d.len)):=by
 refine⟨h.1,?_⟩;rcases h.2 with⟨h1,pq,pd,pc,a,rfl⟩|⟨h1,b,rfl,h2,h3⟩
 ·exact⟨none,pq,pd,pc,a,rfl,.inl h1⟩
 ·exact⟨some ⟨b,0,none⟩,none,0,0,0,by rw[h1],.inr ⟨h1,b,rfl,h2,h3⟩⟩
theorem zh2 {S:Nat->Prop}{W:World}{n eb:Nat}{f:Fd}{d:Dt}{pp:Option Addr}{c0 c1 c2:Value}(h:zaG f d≠0\/(zaG f d=0/\∃b,pp=some ⟨b,0,none⟩/\n<=b/\b≠eb/\ArrS (fun k=>S k/\k≠eb) W b f d d.off d.len)) :
  zaG f d≠0\/(zaG f d=0/\∃b,pp=some ⟨b,0,none⟩/\n<=b/\ArrS S (((W.setCell ⟨eb,0,none⟩ c0).setCell ⟨eb,1,none⟩ c1).setCell ⟨eb,2,none⟩ c2) b f d d.off d.len):=by
 rcases h with h|⟨h,b,h1,h2,h3,h4⟩
 ·exact .inl h
 ·exact .inr ⟨h,b,h1,h2,h4.keep (fun k hk _=>⟨zjn hk.2 _ _ _,hk.1⟩) (zjn h3 _ _ _)⟩
theorem zjK {F:Fence}{n:Nat}{P:Program}{g:Operand}{p0 p1:Tmp}{assign body:Code}{Q:Exit->Act->World->Prop}{a:Act}{w:World}(slot:Tmp)
  (hro:F.round=none) (h1:1<=n) {gf:Nat} {lb:Array Value} (hg:a.eval g=.func (.func gf) #[] lb) (hFg:F.fn gf) (eg:∀args w,(callFunc gf args).run P w=.ok (.enter gf args) w)
  {Kp:World->World->Prop} {S Sp:List RowX->Prop} {N:Nat} {w0:World} (hseq:zjH F (n-1) P gf lb RowX.args RowX.told Kp S Sp N w0)
  (hKt:∀ {A B C:World},Kp A B->Kp B C->Kp A C) (hKb:∀(W:World) (l:Nat) (o o':Obj),w.heap.size<=l->W.heap[l]?=some o->o.isCells=false->o.isWalk=false->Kp W (W.putObj l o')) (hb0:Below w0.heap.size w0 w)
  (I:List RowX->World->Prop) (Ix:Code->List RowX->World->Prop) (hI:OwnFrom w.heap.size I) (hIx:∀c,OwnFrom w.heap.size (Ix c)) (h0:I [] w)
  (hassign:∀(l:Nat) (pre:List RowX) (x:RowX) (W:World) (K:Act->World->Prop),I pre W->RowX.told l x W->(∀a' W',KeepsFrom w.heap.size W W'->Kp W W'->I pre W'->(∃Bx,l<Bx/\BoxN W' Bx 39 x.cs/\VAt (fun k=>l<k/\k≠Bx) W' x.v x.cs/\a' = { tmps:=((a.tmps.setIfInBounds p0 (.int .i64 (x.i:Int))).setIfInBounds p1 (.agg x.cs.toArray)).setIfInBounds slot (.pointer (some ⟨Bx,0,none⟩)),defers:=[] })->K a' W') ->
   assign.wpIn (F.inRound l) (n-1-1) P (Exit.then K (fun _ _ _=>False)) { tmps:=(a.tmps.setIfInBounds p0 (.int .i64 (x.i:Int))).setIfInBounds p1 (.agg x.cs.toArray),defers:=[] } W)
  (hbody:∀(l:Nat) (pre:List RowX) (x:RowX) (Bx:Nat) (W:World),w.heap.size<=l->I pre W->l<Bx->BoxN W Bx 39 x.cs->VAt (fun k=>l<k/\k≠Bx) W x.v x.cs->(VFew x.v/\NumI x.v)->pre.length<N ->
   body.wpIn (F.inRound l) (n-1-1) P (ownPostG w.heap.size Kp I Ix (pre ++ [x]) W) { tmps:=((a.tmps.setIfInBounds p0 (.int .i64 (x.i:Int))).setIfInBounds p1 (.agg x.cs.toArray)).setIfInBounds slot (.pointer (some ⟨Bx,0,none⟩)),defers:=[] } W)
  (hdone:∀(D:Nat) (xs:List RowX) (W:World),w.heap.size<=D->S xs->I xs W->W.heap[D]?=some (.deferred (some []))->Q .normal { a with defers:={ target:=.collected D,args:=#[] } :: a.defers } W)
  (hstop:∀(D:Nat) (c:Code) (pre:List RowX) (W:World),w.heap.size<=D->Sp pre->Ix c pre W->W.heap[D]?=some (.deferred (some []))->c.wpIn F n P Q { a with defers:={ target:=.collected D,args:=#[] } :: a.defers } W) :
  (Code.rangeFunc g #[p0,p1] assign body).wpIn F n P Q a w:=by
 refine zjI hro h1 hg hFg eg hseq hKt hKb hb0 (fun _=>rfl) I Ix hI hIx h0
  (fun l x a' W=>(VFew x.v/\NumI x.v)/\∃Bx,l<Bx/\BoxN W Bx 39 x.cs/\VAt (fun k=>l<k/\k≠Bx) W x.v x.cs/\a' = { tmps:=((a.tmps.setIfInBounds p0 (.int .i64 (x.i:Int))).setIfInBounds p1 (.agg x.cs.toArray)).setIfInBounds slot (.pointer (some ⟨Bx,0,none⟩)),defers:=[] })
  ?_ ?_ ?_ hdone hstop
 ·rintro l x a' W o' ⟨hx,Bx,h1,h2,h3,h4⟩;refine⟨hx,Bx,h1,(World.putObj_heap_other (by omega)).trans h2,h3.keep (fun k hk _=>⟨World.putObj_heap_other (by omega),hk⟩),h4⟩
 ·intro l pre x W K hi hT hK;have:=hassign l pre x W K hi hT (fun a' W' h1 h2 h3 h4=>hK a' W' h1 h2 h3 ⟨hT.1.2,h4⟩);simpa [RowX.args] using this
 ·rintro l pre x a' W hl hi ⟨hx,Bx,h1,h2,h3,rfl⟩ hlen;exact hbody l pre x Bx W hl hi h1 h2 h3 hx hlen
def zcK (M:Nat)(f:Fd)(d:Dt)(s:Agg):Int × Agg:=if zaG f d≠0 then(zaG f d,s) else if 2147483647-(s.all:Int)<d.len then(2,s) else(0,(zbg f d d.len.toNat).foldl (zaJ (zbs M)) s)
def znV (O:Nat->Prop)(w:World)(fb b zb:Nat)(op:Int)(f:Fd)(fp:Option Addr)(fc:Nat)(r:Int × Agg)(e:Ending)(w':World):Prop:=e=.returned (.int .i64 r.1)/\Chg (zas b zb) w w'/\FoldAt O w' fb b zb op f fp fc r.2
theorem zlO {M:Nat}{f:Fd}{d:Dt}{s:Agg}(h:zaG f d≠0):zcK M f d s=(zaG f d,s):=if_pos h
theorem zkj {M:Nat}{f:Fd}{d:Dt}{s:Agg}(h:zaG f d=0)(h2:2147483647-(s.all:Int)<d.len):zcK M f d s=(2,s):=by unfold zcK;rw[if_neg (by simp[h]),if_pos h2]
theorem zjL {M:Nat}{f:Fd}{d:Dt}{s:Agg}(h:zaG f d=0)(h2:¬2147483647-(s.all:Int)<d.len):zcK M f d s=(0,(zbg f d d.len.toNat).foldl (zaJ (zbs M)) s):=by unfold zcK;rw[if_neg (by simp[h]),if_neg h2]
theorem zhO (C:Fd->Vl->Vl->Int):∀(l:List Vl) (s:Agg),(l.foldl (zaJ C) s).all=s.all+l.length/\zbe (l.foldl (zaJ C) s)=zbe s
 | [],s=>⟨rfl,rfl⟩
 | v :: r,s=>by
  have h:=zhO C r (zaJ C s v);rw[ziH,ziI] at h;refine⟨?_,h.2⟩;rw[List.length_cons];have:=h.1;show(r.foldl (zaJ C) (zaJ C s v)).all=_;omega
theorem zlP {M:Nat}:∀(l:List Vl) {s:Agg},AggOk M s->s.all+l.length<=2147483647->(∀v ∈ l,VFew v/\NumI v)->AggOk M (l.foldl (zaJ (zbs M)) s)
 | [],s,h,_,_=>h
 | v :: r,s,h,hl,hv=>by
  rw[List.length_cons] at hl;exact zlP r (zh0 h (by omega) (hv v (by simp)).1 (hv v (by simp)).2) (by rw[ziH];omega) (fun u hu=>hv u (by simp[hu]))
theorem zdN {f:Fd}{d:Dt}(h:zaG f d=0):zbh f=0/\(zap f d).1=0:=by
 unfold zaG at h;split at h <;> simp_all
theorem zo5 {f:Fd}{d:Dt}(h:zaG f d=0){k:Nat}(hk:(k:Int)<=d.len):∀v ∈ zbg f d k,VFew v/\NumI v:=fun v hv=>by
 obtain⟨i,hi,rfl⟩:=List.mem_map.1 hv;have:=zh1 (zdN h).1 (zdN h).2 (i:=i) (by have:=List.mem_range.1 hi;omega);exact⟨this.2.2.1,this.2.2.2⟩
attribute [local go_sem] Oper.semAt_some
theorem zkk {M:Nat}{O:Nat->Prop}{w0 w:World}{fb b zb:Nat}{op:Int}{f:Fd}{fp:Option Addr}{fc:Nat}{s:Agg}{d:Dt}{bp kp dp:Option Addr}{bc kc dc:Nat}
  (h:FoldAt O w fb b zb op f fp fc s) (ho:AggOk M s) (hok:FdOk f) (hd:DAt (fun k=>¬zas b zb k) w d (Fld.d6 d bp bc kp kc dp dc)) (hdok:DtOk d)
  (hB0:Below w0.heap.size w0 w) (hfb:w0.heap.size<=b/\w0.heap.size<=zb) (hT:TabsAt w0) :
  Calls Tryz.prog 17 #[.pointer (some ⟨fb,0,none⟩),.agg #[.int .i64 d.len,.int .i64 d.off,.int .i64 d.nul,.slice bp d.bufs.length bc,.slice kp d.kids.length kc,.slice dp d.dict.length dc]] w (znV O w fb b zb op f fp fc (zcK M f d s)):=by
 refine(callsIn_wide (n:=9)).1 ?_;have hro:Fence.wide.round=none:=rfl;have hmx:Tryz.prog.follows .mixedOrders=true:=by kernel_rfl
 have hdd:∀k:Nat,(Fence.wide.depth.isSome=true->1<=k):=fun k h=>by simp[Fence.wide] at h
 have HFA:=zh h;have HO:=zh ho;have HFD:=zh (FdAt.ofM hok h.fld);have HD:=zh hd;have HDOK:=zh hdok;have HB0:=zh hB0;have HFB:=zh hfb;have HT:=zh hT;obtain⟨W,hW,x0,x1,hBW⟩:=zbt w 34 [.pointer (some ⟨fb,0,none⟩)] 46 (Fld.d6 d bp bc kp kc dp dc);have HW:=zh hW;have X0:=zh x0;have X1:=zh x1;have HBW:=zh hBW;obtain⟨RR,hRR⟩:=Fld.nm (zcK M f d s);rw[<-hRR];have HRR:=zh hRR;clear h ho hok hd hdok hB0 hfb hT hW x0 x1 hBW hRR;refine callsIn_of_wp_marks Tryz.func17 rfl (trivial:Fence.wide.fn 17) ?_ hro;simp only[Tryz.ntmps17,List.size_toArray,List.length_cons,List.length_nil,Nat.reduceAdd,Nat.reduceSub,Array.replicate_succ,Array.replicate_zero,List.push_toArray,List.append_toArray,List.nil_append,List.cons_append];refine wpIn_wide.2 ?_;go_wp2_with fail;rw[<-HW.o]
 go_cut [5,6] from 9 to 18 (fun t5 t6 wx=>∃(eb:Nat) (pp pq:Option Addr) (pd pc:Nat) (ae:Int),t5=.pointer pp/\t6=.pointer (some ⟨eb,0,none⟩)/\Hid (OpenR (fun k=>¬zas b zb k) W wx f d eb pp pq pd pc ae))
 case first=>
  have HU0:Hid (OpS fb (w.heap.size+1) w.heap.size [.int .i64 op,.string f.nm,.bool f.nl,.int .i64 f.k,.int .i64 f.wd,.int .i64 f.id,.int .i64 f.ix,.slice fp f.kids.length fc,.iface (zbe s) (.pointer (some ⟨b,0,none⟩))] (Fld.d6 d bp bc kp kc dp dc) [.pointer (some ⟨fb,0,none⟩)] W.drew):=zh (OpS.below ⟨(HFA.o.box.below HBW.o HFA.o.box.lt).row,X1.o.row,X0.o.row⟩ (zaf (Below.refl _ _)));obtain⟨U0,hU0⟩:=Fld.nm (W.drew);have HBU:=zh (show Below W.heap.size W U0 by rw[hU0];exact zaf (Below.refl _ _));refine zlN ?_;refine Late.region (OpS fb (w.heap.size+1) w.heap.size [.int .i64 op,.string f.nm,.bool f.nl,.int .i64 f.k,.int .i64 f.wd,.int .i64 f.id,.int .i64 f.ix,.slice fp f.kids.length fc,.iface (zbe s) (.pointer (some ⟨b,0,none⟩))] (Fld.d6 d bp bc kp kc dp dc) [.pointer (some ⟨fb,0,none⟩)]) (fun j=>decide (11<=j)) (by kernel_rfl) ?_;rw[<-hU0] at HU0 ⊢;clear hU0;refine Late.ta (i:=0) (v:=?_) ?_ HU0.o ?_;rotate_left
  ·intro w' hS;have s0:=hS.2.2 0 _ rfl;clear hS;go_simp;rfl
  refine Late.ta (i:=1) (v:=?_) ?_ HU0.o ?_;rotate_left
  ·intro w' hS;clear hS;go_simp;rfl
  refine Late.ta (i:=2) (v:=?_) ?_ HU0.o ?_;rotate_left
  ·intro w' hS;clear hS;go_simp;rfl
  refine Late.ta (i:=3) (v:=?_) ?_ HU0.o ?_;rotate_left
  ·intro w' hS;have s1:=hS.1 1 _ rfl;have s2:=hS.1 2 _ rfl;have s3:=hS.1 3 _ rfl;have s4:=hS.1 4 _ rfl;have s5:=hS.1 5 _ rfl;have s6:=hS.1 6 _ rfl;have s7:=hS.1 7 _ rfl;clear hS;go_simp;rfl
  refine Late.ta (i:=4) (v:=?_) ?_ HU0.o ?_;rotate_left
  ·intro w' hS;have s0:=hS.2.1 0 _ rfl;have s1:=hS.2.1 1 _ rfl;have s2:=hS.2.1 2 _ rfl;have s3:=hS.2.1 3 _ rfl;have s4:=hS.2.1 4 _ rfl;have s5:=hS.2.1 5 _ rfl;clear hS;go_simp;rfl
  have HB2:=zh (HB0.o.trans ((HBW.o.trans (HBU.o.mono HBW.o.size)).mono HB0.o.size));refine Late.two (i:=5) (k:=9) (by kernel_rfl) rfl rfl (fun K hK=>?_) (fun K hK=>?_)
  ·
   go_simp;have hopen:=ze6 (S:=fun k=>¬zas b zb k) (w:=U0) (fun k hk=>by have h1:=HFA.o.agg.lt b HFA.o.agg.own.1;have h2:=HFA.o.agg.lt zb HFA.o.agg.own.2;have h3:=HBW.o.size;have h4:=HBU.o.size;unfold zas;omega) (f:=f) (d:=d) (fs:=[.string f.nm,.bool f.nl,.int .i64 f.k,.int .i64 f.wd,.int .i64 f.id,.int .i64 f.ix,.slice fp f.kids.length fc]) (ds:=[.int .i64 d.len,.int .i64 d.off,.int .i64 d.nul,.slice bp d.bufs.length bc,.slice kp d.kids.length kc,.slice dp d.dict.length dc])
    (HFD.o.below (HBW.o.trans ((HBU.o).mono HBW.o.size))) ?_ (HT.o.s.below (HB2.o)) (HT.o.v.below (HB2.o)) (Utf8Tabs_below HT.o.t (HB2.o)) HDOK.o
   rotate_left
   ·exact HD.o.keep (fun k hk hl=>⟨(HBW.o.trans (HBU.o.mono HBW.o.size)).block k hl,hk⟩)
   refine hopen.mono ?_;rintro e U4 he;obtain⟨hb4,pp,pq,pd,pc,ae,rfl,harr⟩:=he.one;have HB4:=zh hb4;have HARR:=zh harr;have HU4:=zh (HU0.o.below hb4);clear hb4 harr he hopen;obtain⟨er,her⟩:=Fld.nm (zaG f d);rw[<-her];have HER:=zh her;clear her;refine hK _ _ (fun _=>HU4.o) ?_;clear hK K;refine Late.ta (i:=6) (v:=?_) ?_ HU4.o ?_;rotate_left
   ·intro w' hS;clear hS;go_simp;rfl
   refine Late.ta (i:=7) (v:=?_) ?_ HU4.o ?_;rotate_left
   ·intro w' hS;clear hS;go_simp;rfl
   refine Late.ta (i:=8) (v:=?_) ?_ HU4.o ?_;rotate_left
   ·intro w' hS;clear hS;go_simp;rfl
   refine Late.on (i:=9) fun K hK=>?_;go_simp;obtain⟨UA,hUA⟩:=Fld.nm (U4.alloc (.cells #[.int .i64 0,.slice none 0 0,.int .i64 0] 69));have hbl:Below U4.heap.size U4 UA:=by rw[hUA];exact za6 (Below.refl _ _) _
   obtain⟨xe,hxe⟩:=Fld.nm (U4.heap.size);have BX:=zh (show BoxN UA xe 69 [.int .i64 0,.slice none 0 0,.int .i64 0] by rw[hUA,hxe];exact BoxN.new U4 69 [.int .i64 0,.slice none 0 0,.int .i64 0]);rw[<-hUA,<-hxe];have HXE:=zh hxe;have HBL:=zh hbl;clear hUA hxe hbl;have HUA:=zh (HU4.o.below HBL.o);refine hK _ _ (fun _=>HUA.o) ?_;clear hK K;refine Late.on (i:=10) fun K hK=>?_;go_simp;refine hK _ _ (fun _=>HUA.o) ?_;clear hK K;obtain⟨z0,z1,z2⟩:=ff3 BX.o;obtain⟨b0,b1,b2⟩:=rr3 BX.o.row;have hl3:=BX.o.lt;refine Late.on (i:=11) fun K hK=>?_;go_simp;refine hK _ _ (fun h=>by cases h) ?_;clear hK K z0 z1 z2 b0 b1 b2 hl3;refine Late.done (by kernel_rfl) ?_ _;go_wp2_with fail;go_meet;refine⟨xe,pp,pq,pd,pc,ae,rfl,rfl,zh ⟨zae (HBU.o.trans ((HB4.o.trans (HBL.o.mono HB4.o.size)).mono HBU.o.size)) (by have h1:=HBU.o.size;have h2:=HXE.o;have h3:=HB4.o.size;omega) _ _ _,by rw[<-HER.o];exact zak rfl BX.o _ _ _,by have h1:=HBU.o.size;have h2:=HXE.o;have h3:=HB4.o.size;omega,zh2 ?_⟩⟩;rcases HARR.o with h|⟨h,b6,h1,h2,h3⟩
   ·exact .inl h
   ·exact .inr ⟨h,b6,h1,Nat.le_trans HBU.o.size h2,by have e1:=h3.lt;have e2:=HXE.o;omega,h3.keep (fun k hk hl=>⟨HBL.o.block k hl,hk,by have e2:=HXE.o;omega⟩) (HBL.o.block b6 h3.lt)⟩
  ·
   go_simp;obtain⟨UA,hUA⟩:=Fld.nm (U0.alloc (.cells #[.int .i64 0,.slice none 0 0,.int .i64 0] 69));have hbl:Below U0.heap.size U0 UA:=by rw[hUA];exact za6 (Below.refl _ _) _
   obtain⟨xe,hxe⟩:=Fld.nm (U0.heap.size);have BX:=zh (show BoxN UA xe 69 [.int .i64 0,.slice none 0 0,.int .i64 0] by rw[hUA,hxe];exact BoxN.new U0 69 [.int .i64 0,.slice none 0 0,.int .i64 0]);rw[<-hUA,<-hxe];have HXE:=zh hxe;have HBL:=zh hbl;clear hUA hxe hbl;have HUA:=zh (HU0.o.below HBL.o);have BX0:=zh BX.o.lt;have HB3:=zh (HB2.o.trans (HBL.o.mono HB2.o.size));refine hK _ _ (fun _=>HUA.o) ?_;clear hK K;refine Late.on (i:=5) fun K hK=>?_;go_simp;have hopen:=ze6 (S:=fun k=>¬zas b zb k/\k≠xe) (w:=UA) (fun k hk=>by have h1:=HFA.o.agg.lt b HFA.o.agg.own.1;have h2:=HFA.o.agg.lt zb HFA.o.agg.own.2;have h3:=HBW.o.size;have h4:=HBU.o.size;have h5:=HBL.o.size;have h6:=BX.o.lt;unfold zas;omega) (f:=f) (d:=d) (fs:=[.string f.nm,.bool f.nl,.int .i64 f.k,.int .i64 f.wd,.int .i64 f.id,.int .i64 f.ix,.slice fp f.kids.length fc]) (ds:=[.int .i64 d.len,.int .i64 d.off,.int .i64 d.nul,.slice bp d.bufs.length bc,.slice kp d.kids.length kc,.slice dp d.dict.length dc])
    (HFD.o.below (HBW.o.trans ((HBU.o.trans (HBL.o.mono HBU.o.size)).mono HBW.o.size))) ?_ (HT.o.s.below (HB3.o)) (HT.o.v.below (HB3.o)) (Utf8Tabs_below HT.o.t (HB3.o)) HDOK.o
   rotate_left
   ·exact HD.o.keep (fun k hk hl=>⟨(HBW.o.trans ((HBU.o.trans (HBL.o.mono HBU.o.size)).mono HBW.o.size)).block k hl,hk,by have h1:=HBW.o.size;have h2:=HBU.o.size;have h3:=HXE.o;omega⟩)
   refine hopen.mono ?_;rintro e U4 he;obtain⟨hb4,pp,pq,pd,pc,ae,rfl,harr⟩:=he.one;have HB4:=zh hb4;have HARR:=zh harr;have HUA:=zh (HUA.o.below hb4);have BX:=zh (BX.o.below hb4 BX.o.lt);have HLX:=zh (show xe<UA.heap.size by have:=HXE.o;have h2:=BX.o.lt;have:=BX0.o;omega);clear hb4 harr he hopen;obtain⟨er,her⟩:=Fld.nm (zaG f d);rw[<-her];have HER:=zh her;clear her;refine hK _ _ (fun _=>HUA.o) ?_;clear hK K;refine Late.ta (i:=6) (v:=?_) ?_ HUA.o ?_;rotate_left
   ·intro w' hS;clear hS;go_simp;rfl
   refine Late.ta (i:=7) (v:=?_) ?_ HUA.o ?_;rotate_left
   ·intro w' hS;clear hS;go_simp;rfl
   refine Late.ta (i:=8) (v:=?_) ?_ HUA.o ?_;rotate_left
   ·intro w' hS;clear hS;go_simp;rfl
   refine Late.on (i:=10) fun K hK=>?_;go_simp;refine hK _ _ (fun _=>HUA.o) ?_;clear hK K;obtain⟨z0,z1,z2⟩:=ff3 BX.o;obtain⟨b0,b1,b2⟩:=rr3 BX.o.row;have hl3:=BX.o.lt;refine Late.on (i:=11) fun K hK=>?_;go_simp;refine hK _ _ (fun h=>by cases h) ?_;clear hK K z0 z1 z2 b0 b1 b2 hl3;refine Late.done (by kernel_rfl) ?_ _;go_wp2_with fail;go_meet;refine⟨xe,pp,pq,pd,pc,ae,rfl,rfl,zh ⟨zae (HBU.o.trans ((HBL.o.trans (HB4.o.mono HBL.o.size)).mono HBU.o.size)) (by have h1:=HBU.o.size;have h2:=HXE.o;have h3:=HB4.o.size;omega) _ _ _,by rw[<-HER.o];exact zak rfl BX.o _ _ _,by have h1:=HBU.o.size;have h2:=HXE.o;have h3:=HB4.o.size;omega,zh2 ?_⟩⟩;rcases HARR.o with h|⟨h,b6,h1,h2,h3⟩
   ·exact .inl h
   ·exact .inr ⟨h,b6,h1,Nat.le_trans HBU.o.size (Nat.le_trans HBL.o.size h2),by have e1:=HLX.o;omega,h3⟩
 case rest=>
  obtain⟨eb,pp,pq,pd,pc,ae,rfl,rfl,HP⟩:=hcut;have HBC:=zh HP.o.below;have BX:=zh HP.o.box;have HAR:=zh HP.o.arr;clear HP;have FA:=zh (HFA.o.below (HBW.o.trans (HBC.o.mono HBW.o.size)));have HBw:=zh (HBW.o.trans (HBC.o.mono HBW.o.size));have Z0:=zh (X0.o.below HBC.o X0.o.lt);obtain⟨er,her⟩:=Fld.nm (zaG f d);rw[<-her] at BX;have HER:=zh her;clear her;obtain⟨e0,e1,e2⟩:=rr3 BX.o.row;have elt:=BX.o.lt;by_cases hz:er=0;rotate_left
  ·have hz1:(er == 0)=false:=by simpa using hz
   have hz2:(er != 0)=true:=by simpa using hz
   have HZ:=zh hz;clear hz;go_wp2_with fail;rw[HRR.o,zlO (by rw[<-HER.o];exact HZ.o),<-HER.o];exact⟨_,zjJ (i:=4) rfl rfl _,rfl,Chg.below HBw.o,FA.o⟩
  subst hz;obtain⟨h0,b6,rfl,hb6,hA6⟩:=HAR.o.resolve_left (by rw[<-HER.o];simp);obtain⟨hf0,hw0⟩:=zdN h0;obtain⟨n,o,hn,ho2,hle⟩:=zeq hw0;rw[hn,ho2] at hA6;have HA6:=zh hA6;have HH0:=zh h0;have HF0:=zh hf0;have HW0:=zh hw0;have HN:=zh hn;have HOF:=zh ho2;have HB6:=zh hb6;have N1:=zh (fun t:Nat=>zo4 (zki (hA6.below (zab (Below.refl _ wc) t)).arr));have N2:=zh (fun t:Nat=>zo4 (zjg (FA.o.below (zab (Below.refl _ wc) t)) HO.o.all (n:Int)));have z0:wc.cell? ⟨w.heap.size,0,none⟩=some (.pointer (some ⟨fb,0,none⟩)):=Z0.o.row 0 _ rfl;have hn4:n<=4096:=by omega
  clear h0 hf0 hw0 hn ho2 hle hA6 hb6 HAR;obtain⟨rm,hrm⟩:=Fld.nm (decide ((n:Int)<=2147483647-(s.all:Int)));rw[<-hrm] at N2;have HRM:=zh hrm;clear hrm;by_cases hq:rm=true;rotate_left
  ·have hq':rm=false:=by simpa using hq
   subst hq';clear hq;go_wp2_with fail
   go_quiet (first|(with_reducible exact Calls.quiet_of_same (N1.o _))|(with_reducible exact Calls.quiet_of_same (N2.o _)))
   go_wp2_with fail;have hfull:2147483647-(s.all:Int)<d.len:=by
    have:=HRM.o;have:=HN.o;simp at *;omega
   rw[HRR.o,zkj HH0.o hfull];exact⟨_,zjJ (i:=4) rfl rfl _,rfl,Chg.below (zab HBw.o _),FA.o.below (zab (Below.refl _ _) _)⟩
  subst hq;go_wp2_with fail
  go_quiet (first|(with_reducible exact Calls.quiet_of_same (N1.o _))|(with_reducible exact Calls.quiet_of_same (N2.o _)))
  go_wp2_with fail;refine(znU _ _).mono ?_;rintro e V ⟨rfl,hV⟩;have hnf:¬2147483647-(s.all:Int)<d.len:=by
   have:=HRM.o;have:=HN.o;simp at *;omega
  have HNF:=zh hnf;have hbV:Below wc.heap.size wc V:=by rw[hV];exact(zab (Below.refl _ _) _).alloc (show wc.heap.size<=wc.heap.size from Nat.le_refl _) _
  have HBV:=zh hbV;have PBX:BoxN V wc.heap.size 67 [.pointer (some ⟨b6,0,none⟩)]:=by rw[hV];exact BoxN.new (wc.drewN _) 67 [.pointer (some ⟨b6,0,none⟩)]
  have HPB:=zh PBX;have FV:=zh (FA.o.below hbV);have AV:=zh (HA6.o.below hbV);have ZV:=zh (Z0.o.below hbV Z0.o.lt);have HBwV:=zh (HBw.o.trans (hbV.mono HBw.o.size));have hVz:(wc.drewN nq).heap.size=wc.heap.size:=rfl;rw[hVz];clear hnf hV hbV PBX hVz N1 N2 e0 e1 e2 elt z0;obtain⟨pb,hpb⟩:=Fld.nm (wc.heap.size);have HPS:=zh hpb;rw[<-hpb] at HPB ⊢;clear hpb;have ltb:=FV.o.agg.lt b FV.o.agg.own.1;have ltz:=FV.o.agg.lt zb FV.o.agg.own.2;have LT:=zh (And.intro ltb ltz);have BLT:=zh (And.intro (HFA.o.agg.lt b HFA.o.agg.own.1) (HFA.o.agg.lt zb HFA.o.agg.own.2));clear ltb ltz;go_wp2_with fail;refine(wpIn_wide (n:=9)).1 ?_;refine zjK (F:=Fence.wide) 8 hro (by decide) (gf:=40) (lb:=#[.pointer (some ⟨pb,0,none⟩)]) rfl trivial (enters_of Tryz.func40 (by kernel_rfl) rfl)
   (zp9 (C:=zas b zb) (S:=fun k=>¬zas b zb k) (wt:=w0) AV.o HOF.o HN.o (fun k hk=>hk) (by have h1:=BLT.o;have h2:=HB6.o;have h3:=HBW.o.size;unfold zas;omega) (by have h1:=BLT.o;have h2:=HPS.o;have h3:=HBw.o.size;unfold zas;omega) (HPB.o.row 0 _ rfl) HF0.o HW0.o HT.o.t (HB0.o.trans (HBwV.o.mono HB0.o.size)) (fun k hk=>by have h1:=HFB.o;rcases hk with e|e <;> omega) (fun k hk=>by have h1:=LT.o;rcases hk with e|e <;> omega))
   (fun h k=>h.trans k) (fun W l o o' hl ho _ _=>Chg.grown (grownBy_putObj' W l o') (.inr hl)) (Below.refl _ _)
   (fun pre Wx=>FoldAt O Wx fb b zb op f fp fc ((pre.map RowX.v).foldl (zaJ (zbs M)) s)/\AggOk M ((pre.map RowX.v).foldl (zaJ (zbs M)) s)/\Chg (fun k=>zas b zb k\/V.heap.size<=k) V Wx/\BoxN Wx w.heap.size 34 [.pointer (some ⟨fb,0,none⟩)])
   (fun _ _ _=>False)
   (fun s X Y row hs hg hr=>⟨hs.1.turned hg (fun r e=>(hr r e).2),hs.2.1,hs.2.2.1.trans ⟨hg.os,hg.tape,hg.output,hg.size,fun k hk hc=>hg.block k hk (fun e=>hc (.inr (hr _ e.symm).1))⟩,hs.2.2.2.turned hg (fun r e=>(hr r e).2)⟩)
   (fun c s X Y row hs _ _=>hs.elim) ⟨FV.o,HO.o,Chg.refl _ _,ZV.o⟩ ?assign ?body ?done ?stop
  case stop=>
   rintro D c pre Wx hD hS hF;exact hF.elim
  case assign=>
   rintro l pre ⟨xi,v,vp,vc⟩ Wx K ⟨h1,h2,h3,h4⟩ ⟨⟨hlw,hgd⟩,hvat⟩ hK;simp only[RowX.cs] at hvat hK ⊢;have HI:=zh (And.intro h1 (And.intro h2 (And.intro h3 h4)));have HV:=zh hvat;have HKK:=zh hK;clear h1 h2 h3 h4 hgd hvat hK;gi_wp2;have hba:Below Wx.heap.size Wx (Wx.alloc (.cells #[.bool v.nl,.int .i64 v.num,.string v.tx,.slice vp v.kids.length vc] 39)):=(Below.refl _ Wx).alloc (Nat.le_refl _) _;exact HKK.o _ _ ((KeepsOthers.alloc _ _).from _) (Chg.below hba) ⟨HI.o.1.below hba,HI.o.2.1,HI.o.2.2.1.trans (Chg.below hba),HI.o.2.2.2.alloc _⟩ ⟨Wx.heap.size,hlw,BoxN.new Wx 39 (Fld.v4 v vp vc),HV.o.keep (fun k hk hl=>⟨hba.block k hl,hk,by omega⟩),rfl⟩
  case body=>
   rintro l pre ⟨xi,v,vp,vc⟩ Bx Wx hl ⟨h1,h2,h3,h4⟩ hlB hbx hvat hgd hlen;simp only[RowX.cs] at hbx hvat ⊢;obtain⟨s1,hs1⟩:=Fld.nm ((pre.map RowX.v).foldl (zaJ (zbs M)) s);rw[<-hs1] at h1 h2;have hlt1:s1.all<2147483647:=by
    have e1:=(zhO (zbs M) (pre.map RowX.v) s).1;have e2:=HNF.o;have e3:=HN.o;rw[hs1,e1,List.length_map];omega
   have hB1:Below w0.heap.size w0 Wx.drew:=zaf (h3.base (HB0.o.trans (HBwV.o.mono HB0.o.size)) (fun k hk=>by have q1:=HFB.o;have q2:=HB0.o.size;have q3:=HBwV.o.size;rcases hk with(e|e)|e <;> omega));have HTAKE:=zh (zlJ (M:=M) (w:=Wx.drew) (h1.agg.below (zaf (Below.refl _ _))) h2 (v:=v) (cs:=[.bool v.nl,.int .i64 v.num,.string v.tx,.slice vp v.kids.length vc]) (fun W' hW'=>by
    have hb:=hW'.base hB1 (fun k hk=>by have:=HFB.o;rcases hk with e|e <;> omega);exact⟨HT.o.s.below hb,Utf8Tabs_below HT.o.t hb⟩) (fun W' hW'=>(VAt.below hvat (zaf (Below.refl _ _))).keep (fun k hk hlk=>⟨hW'.block k hlk (fun h=>by have:=LT.o;rcases h with e|e <;> omega),trivial⟩)) hgd.1 hgd.2)
   have hme:∀w:World,(method 390 (zbe s1) (.pointer (some ⟨b,0,none⟩)) "colonnade/fold.take").run Tryz.prog w=.ok (zdL s1,.pointer (some ⟨b,0,none⟩)) w:=fun w=>(zfq s1 b w).1;have hen:=(zgP s1).1;have f8:Wx.cell? ⟨fb,8,none⟩=some (.iface (zbe s1) (.pointer (some ⟨b,0,none⟩))):=h1.box.row 8 _ rfl;have z0:Wx.cell? ⟨w.heap.size,0,none⟩=some (.pointer (some ⟨fb,0,none⟩)):=h4.row 0 _ rfl;obtain⟨y0,y1,y2,y3⟩:=rr4 hbx.row;have H1:=zh h1;have H2:=zh h2;have H3:=zh h3;have H4:=zh h4;have HS1:=zh hs1;have HGD:=zh hgd;have HLT1:=zh hlt1;clear h1 h2 h3 h4 hs1 hgd hlt1 hbx hvat hlen hB1;generalize hT1:zbe s1=T1 at *;generalize zdL s1=FN at *;have HT1:=zh hT1;clear hT1;gi_wp2
   gi_region_with_o ((try refine⟨trivial,?_⟩);(try refine⟨hdd _,?_⟩);refine(CallsIn.inRound l (callsIn_wide.2 HTAKE.o)).mono ?_;clear HTAKE;rintro e W4 ⟨rfl,hc4,ha4⟩)
   all_goals
    refine⟨⟨hc4.size,fun k o hk hko _=>(hc4.block k (Array.getElem?_eq_some_iff.1 hko).1 (fun h=>by have:=LT.o;rcases h with e|e <;> omega)).trans hko⟩,(Chg.below (zaf (Below.refl _ _))).trans (hc4.mono (fun k hk=>.inl hk)),?_,?_,H3.o.trans ((Chg.below (zaf (Below.refl _ _))).trans (hc4.mono (fun k hk=>.inl hk))),?_⟩
    ·rw[List.map_append,List.foldl_append,<-HS1.o];exact(H1.o.below (zaf (Below.refl _ _))).turn hc4 ha4 (ziI (zbs M) s1 v)
    ·rw[List.map_append,List.foldl_append,<-HS1.o];exact zh0 H2.o HLT1.o HGD.o.1 HGD.o.2
    ·exact hc4.boxN (H4.o.below (zaf (Below.refl _ _)) H4.o.lt) (fun h=>by have:=BLT.o;rcases h with e|e <;> omega)
  case done=>
   rintro D xs Wx hD ⟨hlen,htold⟩ ⟨h1,h2,h3,h4⟩ hK;have hval:xs.map RowX.v=zbg f d n:=by
    have:=congrArg (List.map Prod.snd) htold;rw[hlen] at this;simpa [RowX.iv,zbg,Function.comp_def] using this
   rw[hval] at h1;have H1:=zh h1;have H3:=zh h3;have HKD:=zh hK;clear h1 h2 h3 h4 hK hval htold hlen;go_wp2_with fail;rw[HRR.o,zjL HH0.o (by have:=HNF.o;omega),HN.o];have hgp:=grownBy_putObj' Wx D (.deferred none);exact⟨by simp,.inl ⟨_,_,rfl,run_takeDeferred HKD.o,_,zjJ (i:=4) rfl rfl _,rfl,Chg.own HBwV.o (H3.o.trans (Chg.grown hgp (.inr hD))),H1.o.turned hgp (fun r e=>by cases e;exact⟨_,HKD.o,rfl⟩)⟩⟩
end Go.Fld
namespace Go.Fld
open Go Go.RowKit Go.Proofs Go.ChangeShapes Go.WideShapes Go.ChangeAt Go.Shelf Go.Fld.Late
attribute [local go_sem] Oper.semAt_some
def zeb (M:Nat)(f:Fd)(d:Dt)(s:Agg)(rows:List Int):Int × Agg:=
 if zaG f d≠0 then(zaG f d,s) else if ∃i ∈ rows,i<0\/d.len<=i then(2,s) else if 2147483647-(s.all:Int)<rows.length then(2,s) else(0,((rows.map fun i=>zb3 f d i.toNat)).foldl (zaJ (zbs M)) s)
theorem zo6 {M:Nat}{f:Fd}{d:Dt}{s:Agg}{rows:List Int}(h:zaG f d≠0):zeb M f d s rows=(zaG f d,s):=if_pos h
theorem zhP {M:Nat}{f:Fd}{d:Dt}{s:Agg}{rows:List Int}(h:zaG f d=0)(h2:∃i ∈ rows,i<0\/d.len<=i):zeb M f d s rows=(2,s):=by unfold zeb;rw[if_neg (by simp[h]),if_pos h2]
theorem znW {M:Nat}{f:Fd}{d:Dt}{s:Agg}{rows:List Int}(h:zaG f d=0)(h2:¬ ∃i ∈ rows,i<0\/d.len<=i)(h3:2147483647-(s.all:Int)<rows.length):zeb M f d s rows=(2,s):=by unfold zeb;rw[if_neg (by simp[h]),if_neg h2,if_pos h3]
theorem ziK {M:Nat}{f:Fd}{d:Dt}{s:Agg}{rows:List Int}(h:zaG f d=0)(h2:¬ ∃i ∈ rows,i<0\/d.len<=i)(h3:¬2147483647-(s.all:Int)<rows.length):zeb M f d s rows=(0,(rows.map fun i=>zb3 f d i.toNat).foldl (zaJ (zbs M)) s):=by unfold zeb;rw[if_neg (by simp[h]),if_neg h2,if_neg h3]
def NumsAt (S:Nat->Prop)(w:World)(l:List Int)(p:Option Addr):Prop:=∀j (h:j<l.length),∃rb ro,p=some ⟨rb,ro,none⟩/\S rb/\w.cell? ⟨rb,ro+j,none⟩=some (.int .i64 l[j])/\zah l[j]
theorem NumsAt.keep {S:Nat->Prop}{w w':World}{l:List Int}{p:Option Addr}(h:NumsAt S w l p)(hk:∀k,S k->k<w.heap.size->w'.heap[k]?=w.heap[k]?):NumsAt S w' l p:=fun j hj=>by
 obtain⟨rb,ro,e1,e2,e3,e4⟩:=h j hj;have hlt:=World.block_lt_of_cell? w _ e3;exact⟨rb,ro,e1,e2,(World.cell?_of_block (hk rb e2 hlt)).trans e3,e4⟩
theorem zec {M:Nat}{O:Nat->Prop}{w0 w:World}{fb b zb:Nat}{op:Int}{f:Fd}{fp:Option Addr}{fc:Nat}{s:Agg}{d:Dt}{bp kp dp:Option Addr}{bc kc dc:Nat}
  (h:FoldAt O w fb b zb op f fp fc s) (ho:AggOk M s) (hok:FdOk f) (hd:DAt (fun k=>¬zas b zb k) w d (Fld.d6 d bp bc kp kc dp dc)) (hdok:DtOk d)
  (hB0:Below w0.heap.size w0 w) (hfb:w0.heap.size<=b/\w0.heap.size<=zb) (hT:TabsAt w0) {rows:List Int} {rp:Option Addr} {rc:Nat} (hr:NumsAt (fun k=>¬zas b zb k) w rows rp) (hrl:rows.length<=maxLen) :
  Calls Tryz.prog 12 #[.pointer (some ⟨fb,0,none⟩),.agg #[.int .i64 d.len,.int .i64 d.off,.int .i64 d.nul,.slice bp d.bufs.length bc,.slice kp d.kids.length kc,.slice dp d.dict.length dc],.slice rp rows.length rc] w (znV O w fb b zb op f fp fc (zeb M f d s rows)):=by
 have HFA:=zh h;have HO:=zh ho;have HFD:=zh (FdAt.ofM hok h.fld);have HD:=zh hd;have HDOK:=zh hdok;have HB0:=zh hB0;have HFB:=zh hfb;have HT:=zh hT;have HNM:=zh hr;unfold maxLen at hrl;obtain⟨W,hW,x0,hBW⟩:=zao w 46 (Fld.d6 d bp bc kp kc dp dc);have HW:=zh hW;have X0:=zh x0;have HBW:=zh hBW;obtain⟨RR,hRR⟩:=Fld.nm (zeb M f d s rows);rw[<-hRR];have HRR:=zh hRR;clear h ho hok hd hdok hB0 hfb hT hr hW x0 hBW hRR
 go_in
 go_wp2_with fail;rw[<-HW.o]
 go_cut [7,8] from 11 to 20 (fun t5 t6 wx=>∃(eb:Nat) (pp pq:Option Addr) (pd pc:Nat) (ae:Int),t5=.pointer pp/\t6=.pointer (some ⟨eb,0,none⟩)/\Hid (OpenR (fun k=>¬zas b zb k) W wx f d eb pp pq pd pc ae))
 case first=>
  have HU0:Hid (OpS fb w.heap.size w.heap.size [.int .i64 op,.string f.nm,.bool f.nl,.int .i64 f.k,.int .i64 f.wd,.int .i64 f.id,.int .i64 f.ix,.slice fp f.kids.length fc,.iface (zbe s) (.pointer (some ⟨b,0,none⟩))] (Fld.d6 d bp bc kp kc dp dc) (Fld.d6 d bp bc kp kc dp dc) W.drew):=zh (OpS.below ⟨(HFA.o.box.below HBW.o HFA.o.box.lt).row,X0.o.row,X0.o.row⟩ (zaf (Below.refl _ _)));obtain⟨U0,hU0⟩:=Fld.nm (W.drew);have HBU:=zh (show Below W.heap.size W U0 by rw[hU0];exact zaf (Below.refl _ _));refine Late.region (OpS fb w.heap.size w.heap.size [.int .i64 op,.string f.nm,.bool f.nl,.int .i64 f.k,.int .i64 f.wd,.int .i64 f.id,.int .i64 f.ix,.slice fp f.kids.length fc,.iface (zbe s) (.pointer (some ⟨b,0,none⟩))] (Fld.d6 d bp bc kp kc dp dc) (Fld.d6 d bp bc kp kc dp dc)) (fun j=>decide (11<=j)) (by kernel_rfl) ?_;rw[<-hU0] at HU0 ⊢;clear hU0;refine Late.ta (i:=0) (v:=?_) ?_ HU0.o ?_;rotate_left
  ·intro w' hS;clear hS;go_simp;rfl
  refine Late.ta (i:=1) (v:=?_) ?_ HU0.o ?_;rotate_left
  ·intro w' hS;clear hS;go_simp;rfl
  refine Late.ta (i:=2) (v:=?_) ?_ HU0.o ?_;rotate_left
  ·intro w' hS;clear hS;go_simp;rfl
  refine Late.ta (i:=3) (v:=?_) ?_ HU0.o ?_;rotate_left
  ·intro w' hS;have s1:=hS.1 1 _ rfl;have s2:=hS.1 2 _ rfl;have s3:=hS.1 3 _ rfl;have s4:=hS.1 4 _ rfl;have s5:=hS.1 5 _ rfl;have s6:=hS.1 6 _ rfl;have s7:=hS.1 7 _ rfl;clear hS;go_simp;rfl
  refine Late.ta (i:=4) (v:=?_) ?_ HU0.o ?_;rotate_left
  ·intro w' hS;have s0:=hS.2.1 0 _ rfl;have s1:=hS.2.1 1 _ rfl;have s2:=hS.2.1 2 _ rfl;have s3:=hS.2.1 3 _ rfl;have s4:=hS.2.1 4 _ rfl;have s5:=hS.2.1 5 _ rfl;clear hS;go_simp;rfl
  have HB2:=zh (HB0.o.trans ((HBW.o.trans (HBU.o.mono HBW.o.size)).mono HB0.o.size));refine Late.two (i:=5) (k:=9) (by kernel_rfl) rfl rfl (fun K hK=>?_) (fun K hK=>?_)
  ·
   go_simp;have hopen:=ze6 (S:=fun k=>¬zas b zb k) (w:=U0) (fun k hk=>by have h1:=HFA.o.agg.lt b HFA.o.agg.own.1;have h2:=HFA.o.agg.lt zb HFA.o.agg.own.2;have h3:=HBW.o.size;have h4:=HBU.o.size;unfold zas;omega) (f:=f) (d:=d) (fs:=[.string f.nm,.bool f.nl,.int .i64 f.k,.int .i64 f.wd,.int .i64 f.id,.int .i64 f.ix,.slice fp f.kids.length fc]) (ds:=[.int .i64 d.len,.int .i64 d.off,.int .i64 d.nul,.slice bp d.bufs.length bc,.slice kp d.kids.length kc,.slice dp d.dict.length dc])
    (HFD.o.below (HBW.o.trans ((HBU.o).mono HBW.o.size))) ?_ (HT.o.s.below (HB2.o)) (HT.o.v.below (HB2.o)) (Utf8Tabs_below HT.o.t (HB2.o)) HDOK.o
   rotate_left
   ·exact HD.o.keep (fun k hk hl=>⟨(HBW.o.trans (HBU.o.mono HBW.o.size)).block k hl,hk⟩)
   refine hopen.mono ?_;rintro e U4 he;obtain⟨hb4,pp,pq,pd,pc,ae,rfl,harr⟩:=he.one;have HB4:=zh hb4;have HARR:=zh harr;have HU4:=zh (HU0.o.below hb4);clear hb4 harr he hopen;obtain⟨er,her⟩:=Fld.nm (zaG f d);rw[<-her];have HER:=zh her;clear her;refine hK _ _ (fun _=>HU4.o) ?_;clear hK K;refine Late.ta (i:=6) (v:=?_) ?_ HU4.o ?_;rotate_left
   ·intro w' hS;clear hS;go_simp;rfl
   refine Late.ta (i:=7) (v:=?_) ?_ HU4.o ?_;rotate_left
   ·intro w' hS;clear hS;go_simp;rfl
   refine Late.ta (i:=8) (v:=?_) ?_ HU4.o ?_;rotate_left
   ·intro w' hS;clear hS;go_simp;rfl
   refine Late.on (i:=9) fun K hK=>?_;go_simp;obtain⟨UA,hUA⟩:=Fld.nm (U4.alloc (.cells #[.int .i64 0,.slice none 0 0,.int .i64 0] 69));have hbl:Below U4.heap.size U4 UA:=by rw[hUA];exact za6 (Below.refl _ _) _
   obtain⟨xe,hxe⟩:=Fld.nm (U4.heap.size);have BX:=zh (show BoxN UA xe 69 [.int .i64 0,.slice none 0 0,.int .i64 0] by rw[hUA,hxe];exact BoxN.new U4 69 [.int .i64 0,.slice none 0 0,.int .i64 0]);rw[<-hUA,<-hxe];have HXE:=zh hxe;have HBL:=zh hbl;clear hUA hxe hbl;have HUA:=zh (HU4.o.below HBL.o);refine hK _ _ (fun _=>HUA.o) ?_;clear hK K;refine Late.on (i:=10) fun K hK=>?_;go_simp;refine hK _ _ (fun _=>HUA.o) ?_;clear hK K;obtain⟨z0,z1,z2⟩:=ff3 BX.o;obtain⟨b0,b1,b2⟩:=rr3 BX.o.row;have hl3:=BX.o.lt;refine Late.on (i:=11) fun K hK=>?_;go_simp;refine hK _ _ (fun h=>by cases h) ?_;clear hK K z0 z1 z2 b0 b1 b2 hl3;refine Late.done (by kernel_rfl) ?_ _;go_wp2_with fail;go_meet;refine⟨xe,pp,pq,pd,pc,ae,rfl,rfl,zh ⟨zae (HBU.o.trans ((HB4.o.trans (HBL.o.mono HB4.o.size)).mono HBU.o.size)) (by have h1:=HBU.o.size;have h2:=HXE.o;have h3:=HB4.o.size;omega) _ _ _,by rw[<-HER.o];exact zak rfl BX.o _ _ _,by have h1:=HBU.o.size;have h2:=HXE.o;have h3:=HB4.o.size;omega,zh2 ?_⟩⟩;rcases HARR.o with h|⟨h,b6,h1,h2,h3⟩
   ·exact .inl h
   ·exact .inr ⟨h,b6,h1,Nat.le_trans HBU.o.size h2,by have e1:=h3.lt;have e2:=HXE.o;omega,h3.keep (fun k hk hl=>⟨HBL.o.block k hl,hk,by have e2:=HXE.o;omega⟩) (HBL.o.block b6 h3.lt)⟩
  ·
   go_simp;obtain⟨UA,hUA⟩:=Fld.nm (U0.alloc (.cells #[.int .i64 0,.slice none 0 0,.int .i64 0] 69));have hbl:Below U0.heap.size U0 UA:=by rw[hUA];exact za6 (Below.refl _ _) _
   obtain⟨xe,hxe⟩:=Fld.nm (U0.heap.size);have BX:=zh (show BoxN UA xe 69 [.int .i64 0,.slice none 0 0,.int .i64 0] by rw[hUA,hxe];exact BoxN.new U0 69 [.int .i64 0,.slice none 0 0,.int .i64 0]);rw[<-hUA,<-hxe];have HXE:=zh hxe;have HBL:=zh hbl;clear hUA hxe hbl;have HUA:=zh (HU0.o.below HBL.o);have BX0:=zh BX.o.lt;have HB3:=zh (HB2.o.trans (HBL.o.mono HB2.o.size));refine hK _ _ (fun _=>HUA.o) ?_;clear hK K;refine Late.on (i:=5) fun K hK=>?_;go_simp;have hopen:=ze6 (S:=fun k=>¬zas b zb k/\k≠xe) (w:=UA) (fun k hk=>by have h1:=HFA.o.agg.lt b HFA.o.agg.own.1;have h2:=HFA.o.agg.lt zb HFA.o.agg.own.2;have h3:=HBW.o.size;have h4:=HBU.o.size;have h5:=HBL.o.size;have h6:=BX.o.lt;unfold zas;omega) (f:=f) (d:=d) (fs:=[.string f.nm,.bool f.nl,.int .i64 f.k,.int .i64 f.wd,.int .i64 f.id,.int .i64 f.ix,.slice fp f.kids.length fc]) (ds:=[.int .i64 d.len,.int .i64 d.off,.int .i64 d.nul,.slice bp d.bufs.length bc,.slice kp d.kids.length kc,.slice dp d.dict.length dc])
    (HFD.o.below (HBW.o.trans ((HBU.o.trans (HBL.o.mono HBU.o.size)).mono HBW.o.size))) ?_ (HT.o.s.below (HB3.o)) (HT.o.v.below (HB3.o)) (Utf8Tabs_below HT.o.t (HB3.o)) HDOK.o
   rotate_left
   ·exact HD.o.keep (fun k hk hl=>⟨(HBW.o.trans ((HBU.o.trans (HBL.o.mono HBU.o.size)).mono HBW.o.size)).block k hl,hk,by have h1:=HBW.o.size;have h2:=HBU.o.size;have h3:=HXE.o;omega⟩)
   refine hopen.mono ?_;rintro e U4 he;obtain⟨hb4,pp,pq,pd,pc,ae,rfl,harr⟩:=he.one;have HB4:=zh hb4;have HARR:=zh harr;have HUA:=zh (HUA.o.below hb4);have BX:=zh (BX.o.below hb4 BX.o.lt);have HLX:=zh (show xe<UA.heap.size by have:=HXE.o;have h2:=BX.o.lt;have:=BX0.o;omega);clear hb4 harr he hopen;obtain⟨er,her⟩:=Fld.nm (zaG f d);rw[<-her];have HER:=zh her;clear her;refine hK _ _ (fun _=>HUA.o) ?_;clear hK K;refine Late.ta (i:=6) (v:=?_) ?_ HUA.o ?_;rotate_left
   ·intro w' hS;clear hS;go_simp;rfl
   refine Late.ta (i:=7) (v:=?_) ?_ HUA.o ?_;rotate_left
   ·intro w' hS;clear hS;go_simp;rfl
   refine Late.ta (i:=8) (v:=?_) ?_ HUA.o ?_;rotate_left
   ·intro w' hS;clear hS;go_simp;rfl
   refine Late.on (i:=10) fun K hK=>?_;go_simp;refine hK _ _ (fun _=>HUA.o) ?_;clear hK K;obtain⟨z0,z1,z2⟩:=ff3 BX.o;obtain⟨b0,b1,b2⟩:=rr3 BX.o.row;have hl3:=BX.o.lt;refine Late.on (i:=11) fun K hK=>?_;go_simp;refine hK _ _ (fun h=>by cases h) ?_;clear hK K z0 z1 z2 b0 b1 b2 hl3;refine Late.done (by kernel_rfl) ?_ _;go_wp2_with fail;go_meet;refine⟨xe,pp,pq,pd,pc,ae,rfl,rfl,zh ⟨zae (HBU.o.trans ((HBL.o.trans (HB4.o.mono HBL.o.size)).mono HBU.o.size)) (by have h1:=HBU.o.size;have h2:=HXE.o;have h3:=HB4.o.size;omega) _ _ _,by rw[<-HER.o];exact zak rfl BX.o _ _ _,by have h1:=HBU.o.size;have h2:=HXE.o;have h3:=HB4.o.size;omega,zh2 ?_⟩⟩;rcases HARR.o with h|⟨h,b6,h1,h2,h3⟩
   ·exact .inl h
   ·exact .inr ⟨h,b6,h1,Nat.le_trans HBU.o.size (Nat.le_trans HBL.o.size h2),by have e1:=HLX.o;omega,h3⟩
 case rest=>
  obtain⟨eb,pp,pq,pd,pc,ae,rfl,rfl,HP⟩:=hcut;have HBC:=zh HP.o.below;have BX:=zh HP.o.box;have HAR:=zh HP.o.arr;clear HP;have FA:=zh (HFA.o.below (HBW.o.trans (HBC.o.mono HBW.o.size)));have HBw:=zh (HBW.o.trans (HBC.o.mono HBW.o.size));have NM:=zh (HNM.o.keep (fun k _ hl=>HBw.o.block k hl));obtain⟨er,her⟩:=Fld.nm (zaG f d);rw[<-her] at BX;have HER:=zh her;clear her;obtain⟨e0,e1,e2⟩:=rr3 BX.o.row;have elt:=BX.o.lt;by_cases hz:er=0;rotate_left
  ·have hz1:(er == 0)=false:=by simpa using hz
   have hz2:(er != 0)=true:=by simpa using hz
   have HZ:=zh hz;clear hz;go_wp2_with fail;go_ret;rw[HRR.o,zo6 (by rw[<-HER.o];exact HZ.o),<-HER.o];exact⟨rfl,Chg.below HBw.o,FA.o⟩
  subst hz;obtain⟨h0,b6,rfl,hb6,hA6⟩:=HAR.o.resolve_left (by rw[<-HER.o];simp);obtain⟨hf0,hw0⟩:=zdN h0;obtain⟨n,o,hn,ho2,hle⟩:=zeq hw0;rw[hn,ho2] at hA6;have HA6:=zh hA6;have HH0:=zh h0;have HF0:=zh hf0;have HW0:=zh hw0;have HN:=zh hn;have HOF:=zh ho2;have HB6:=zh hb6;have HLEN:=zh (zki hA6.arr);have HROOM:=zh (zjg FA.o HO.o.all (rows.length:Int));have hn4:n<=4096:=by omega
  clear h0 hf0 hw0 hn ho2 hle hA6 hb6 HAR;go_wp2_with fail
  go_loopw [27] (fun i wr=>∃k:Nat,k<=rows.length/\i=.int .i64 k/\wr=wc/\Hid (∀j (h:j<rows.length),j<k->0<=rows[j]/\rows[j]<(n:Int))) (fun i _=>rows.length-(intOf i).toNat)
  case atStart=>exact⟨0,by omega,rfl,rfl,zh (fun j h hj=>absurd hj (Nat.not_lt_zero _))⟩
  case round=>
   obtain⟨k,hk,rfl,rfl,HIN⟩:=hrel;by_cases hlt:k<rows.length
   ·obtain⟨rb,ro,rfl,hS,hcell,hb⟩:=NM.o k hlt;have hltI:(k:Int)<(rows.length:Int):=by omega
    generalize hrk:rows[k]=i at *;have HRK:=zh hrk;unfold zah at hb;clear hrk hS;by_cases hneg:i<0
    ·have q1:decide (i<0)=true:=by simpa using hneg
     have HNEG:=zh hneg;clear hneg;go_wp2_with fail;go_ret;rw[HRR.o,zhP HH0.o ⟨i,by rw[<-HRK.o];exact List.getElem_mem hlt,.inl HNEG.o⟩];exact⟨rfl,Chg.below HBw.o,FA.o⟩
    ·have q1:decide (i<0)=false:=by simpa using hneg
     go_wp2_with fail;refine HLEN.o.mono ?_;rintro e w' ⟨rfl,rfl⟩;by_cases hbig:(n:Int)<=i
     ·have q2:decide ((n:Int)<=i)=true:=by simpa using hbig
      have q3:decide (i ≥ (n:Int))=true:=by simpa using hbig
      have HBIG:=zh hbig;clear hbig;go_wp2_with fail;go_ret;rw[HRR.o,zhP HH0.o ⟨i,by rw[<-HRK.o];exact List.getElem_mem hlt,.inr (by rw[HN.o];exact HBIG.o)⟩];exact⟨rfl,Chg.below HBw.o,FA.o⟩
     ·have q2:decide ((n:Int)<=i)=false:=by simpa using hbig
      have q3:decide (i ≥ (n:Int))=false:=by simpa using hbig
      have HOKI:=zh (show 0<=i/\i<(n:Int) by omega);clear hbig;go_wp2_with fail;go_roundw
      case rel=>
       refine⟨k+1,by omega,by go_num,by first|trivial|rfl,zh fun j h hj=>?_⟩;by_cases e:j=k
       ·subst e;rw[HRK.o];exact HOKI.o
       ·exact HIN.o j h (by omega)
      case measure=>simp[intOf];omega
   ·have hkl:k=rows.length:=by omega
    have HALL:=zh (show ∀j (h:j<rows.length),0<=rows[j]/\rows[j]<(n:Int) from fun j h=>HIN.o j h (by omega));clear hkl HIN;obtain⟨rm,hrm⟩:=Fld.nm (decide ((rows.length:Int)<=2147483647-(s.all:Int)));rw[<-hrm] at HROOM;have HRM:=zh hrm;clear hrm;go_wp2_with fail;refine HROOM.o.mono ?_;rintro e w' ⟨rfl,rfl⟩;have HNO:=zh (show ¬ ∃i ∈ rows,i<0\/d.len<=i by
     rintro⟨i,hi,hh⟩;obtain⟨j,hj,rfl⟩:=List.getElem_of_mem hi;have h1:=HALL.o j hj;have h2:=HN.o;omega)
    by_cases hq:rm=true;rotate_left
    ·have hq':rm=false:=by simpa using hq
     subst hq';clear hq;go_wp2_with fail;go_ret;rw[HRR.o,znW HH0.o HNO.o (by have:=HRM.o;simp at this;omega)];exact⟨rfl,Chg.below HBw.o,FA.o⟩
    subst hq;have HNF:=zh (show ¬2147483647-(s.all:Int)<rows.length by have:=HRM.o;simp at this;omega);have p8:=FA.o.box.row 8 _ rfl;have HWALK:=zh (znT (M:=M) (rows:=rows.map Int.toNat) (p:=rp) (rc:=rc) HA6.o (fun k hk=>hk) (HB0.o.trans (HBw.o.mono HB0.o.size)) HFB.o (by have h1:=HFA.o.agg.lt b HFA.o.agg.own.1;have h2:=HFA.o.agg.lt zb HFA.o.agg.own.2;have h3:=HB6.o;have h4:=HBW.o.size;unfold zas;omega) HW0.o
     (fun i hi=>by
      obtain⟨x,hx,rfl⟩:=List.mem_map.1 hi;obtain⟨j,hj,rfl⟩:=List.getElem_of_mem hx;have h1:=HALL.o j hj;have h2:=HOF.o;have h3:=HN.o;have h5:d.off.toNat=o:=by omega
      obtain⟨g1,g2,g3,g4⟩:=zh1 HF0.o HW0.o (i:=rows[j].toNat) (by omega);rw[h5] at g1;rw[g1];exact⟨by omega,by omega,by omega,g3,g4⟩) hn4
     (fun j hj=>by
      rw[List.length_map] at hj;obtain⟨rb,ro,e1,e2,e3,e4⟩:=NM.o j hj;have h1:=HALL.o j hj;refine⟨rb,ro,e1,?_,e2⟩;rw[e3,List.getElem_map,Int.toNat_of_nonneg h1.1]) (by rw[List.length_map];have:=HNF.o;omega) FA.o.agg HO.o (by rw[List.length_map];have:=HNF.o;omega) ⟨HT.o.s,HT.o.t⟩)
    rw[List.length_map] at HWALK;obtain⟨T1,hT1⟩:=Fld.nm (zbe s);rw[<-hT1] at HWALK p8;clear hT1;go_wp2_with fail;refine HWALK.o.mono ?_;rintro e w4 ⟨rfl,hc4,ha4⟩;have HC4:=zh hc4;have HA4:=zh ha4;clear hc4 ha4 HWALK p8;go_wp2_with fail;go_ret;rw[HRR.o,ziK HH0.o HNO.o (by have:=HNF.o;omega)];have hoo:d.off.toNat=o:=by have:=HOF.o;omega
    have hval:(rows.map fun i=>zb3 f d i.toNat).foldl (zaJ (zbs M)) s=zcd M f d o s (rows.map Int.toNat):=by
     unfold zcd zb3;rw[hoo,List.foldl_map,List.foldl_map]
    refine⟨rfl,(Chg.below HBw.o).trans HC4.o,?_⟩;rw[hval];exact FA.o.turn HC4.o HA4.o (zeI M f d o _ _).2
end Go.Fld
namespace Go.Fld
open Go Go.RowKit Go.Proofs Go.ChangeShapes Go.WideShapes Go.ChangeAt Go.Shelf Go.Fld.Late
theorem FoldAt.map {O O':Nat->Prop}{w w':World}{fb b zb:Nat}{op:Int}{f:Fd}{fp:Option Addr}{fc:Nat}{s:Agg}(h:FoldAt O w fb b zb op f fp fc s)(hb:w'.heap[b]?=w.heap[b]?)(hz:w'.heap[zb]?=w.heap[zb]?)(hk:∀k,¬O k->k<w.heap.size->w'.heap[k]?=w.heap[k]?/\¬O' k)(hO:O' b/\O' zb)(hlt:∀k,O' k->k<w'.heap.size):FoldAt O' w' fb b zb op f fp fc s:=
 ⟨(hk fb h.far h.box.lt).1.trans h.box,h.fld.keep (fun k a l=>hk k a l),h.agg.map hb hz hk hO hlt,(hk fb h.far h.box.lt).2⟩
theorem FoldAt.shrink {O O':Nat->Prop}{w:World}{fb b zb:Nat}{op:Int}{f:Fd}{fp:Option Addr}{fc:Nat}{s:Agg}(h:FoldAt O w fb b zb op f fp fc s)(hO:∀k,O' k->O k)(ho:O' b/\O' zb):FoldAt O' w fb b zb op f fp fc s:=
 h.map rfl rfl (fun k hk _=>⟨rfl,fun hh=>hk (hO k hh)⟩) ho (fun k hk=>h.agg.lt k (hO k hk))
def zch (M:Nat)(f:Fd):List Dt->Agg->Option Agg
 | [],s=>some s
 | d :: r,s=>if(zcK M f d s).1≠0 then none else zch M f r (zcK M f d s).2
def zer (M:Nat)(op:Int)(f:Fd)(l:List Dt):Option Agg:=if(zbk op f).2≠0 then none else zch M f l (zcr op (zbk op f).1 (zax f).k)
theorem zds {M:Nat}{f:Fd}{d:Dt}{r:List Dt}{s:Agg}(h:(zcK M f d s).1=0):zch M f (d :: r) s=zch M f r (zcK M f d s).2:=by
 rw[zch,if_neg (by simp[h])]
theorem zd2 {M:Nat}{f:Fd}{d:Dt}{r:List Dt}{s:Agg}(h:(zcK M f d s).1≠0):zch M f (d :: r) s=none:=by
 rw[zch,if_pos h]
theorem zgT (M:Nat)(f:Fd):∀(l m:List Dt) (s:Agg),zch M f (l ++ m) s=(zch M f l s).bind (zch M f m)
 | [],m,s=>rfl
 | d :: r,m,s=>by
  by_cases h:(zcK M f d s).1=0
  ·rw[List.cons_append,zds h,zds h,zgT M f r m]
  ·rw[List.cons_append,zd2 h,zd2 h];rfl
theorem zkl {M:Nat}{f:Fd}{d:Dt}{s:Agg}(h:(zcK M f d s).1=0):zaG f d=0/\∃n:Nat,d.len=n/\n<=4096/\s.all+n<=2147483647/\(zcK M f d s).2=(zbg f d n).foldl (zaJ (zbs M)) s:=by
 by_cases h0:zaG f d=0
 ·by_cases h1:2147483647-(s.all:Int)<d.len
  ·rw[zkj h0 h1] at h;cases h
  ·obtain⟨n,o,hn,ho,hle⟩:=zeq (zdN h0).2;refine⟨h0,n,hn,by omega,by omega,?_⟩;rw[zjL h0 h1,hn];rfl
 ·rw[zlO h0] at h;exact absurd h h0
theorem znX {M:Nat}{f:Fd}{d:Dt}{s:Agg}(hs:AggOk M s)(h:(zcK M f d s).1=0):AggOk M (zcK M f d s).2:=by
 obtain⟨h0,n,hn,hle,ha,e⟩:=zkl h;rw[e];exact zlP _ hs (by rw[zfS];exact ha) (zo5 h0 (by omega))
def zlQ (M:Nat)(w:World)(op:Int)(f:Fd)(l:List Dt)(e:Ending)(w':World):Prop:=Below w.heap.size w w' /\
 ((zer M op f l=none/\e=.returned (.tuple #[.pointer none,.bool false])) \/
  ∃s,zer M op f l=some s/\∃fb b zb fp fc,e=.returned (.tuple #[.pointer (some ⟨fb,0,none⟩),.bool true])/\w.heap.size<=fb/\w.heap.size<=b/\w.heap.size<=zb/\FoldAt (ziJ w.heap.size b zb) w' fb b zb op f fp fc s/\AggOk M s)
theorem zlR {mm:Nat}{w0 w:World}{op:Int}{f:Fd}{p lp:Option Addr}{cap lc:Nat}{l:List Dt}(hop:zah op)(hM:zau (zbk op f).1<=mm)(hf:FdAt w f (Fld.f7 f p cap))
  (hl:M.At (fun _=>True) w (.many 6 (l.map dtR)) (.slice lp l.length lc)) (hdk:∀d ∈ l,DtOk d) (hB0:Below w0.heap.size w0 w) (hT:TabsAt w0) :
  Calls Tryz.prog 8 #[.agg #[.int .i64 op,.string f.nm,.bool f.nl,.int .i64 f.k,.int .i64 f.wd,.int .i64 f.id,.int .i64 f.ix,.slice p f.kids.length cap],.slice lp l.length lc] w (zlQ mm w op f l):=by
 have hlm:l.length<=maxLen:=by
  obtain⟨_,_,e,h1,-⟩:=M.At.slice hl;injection e with e1 e2 e3
  subst e3;rw[List.length_map] at h1;exact Nat.le_trans h1.1 h1.2
 unfold maxLen at hlm;have HF:=zh hf;have HL:=zh (hl.keep (T:=fun k=>k<w.heap.size) (fun k _ hk=>⟨rfl,hk⟩));have HDK:=zh hdk;have HB0:=zh hB0;have HT:=zh hT;have HM:=zh hM;have HOK:=zh (FdAt.toM hf).1;obtain⟨W,hW,x0,hBW⟩:=zao w 28 [.int .i64 op,.string f.nm,.bool f.nl,.int .i64 f.k,.int .i64 f.wd,.int .i64 f.id,.int .i64 f.ix,.slice p f.kids.length cap];have HW:=zh hW;have HBW:=zh hBW;have HNEW:=zh (zhK op hop (hf.below hBW) (hT.s.below (hB0.trans (hBW.mono hB0.size))));have HWS:=zh (show W.heap.size=w.heap.size+1 by rw[hW];simp);obtain⟨RR,hRR⟩:=Fld.nm (zer mm op f l);obtain⟨PP,hPP⟩:=Fld.nm (zlQ mm w op f l);rw[<-hPP];have HPP:=zh hPP;clear hf hl hdk hB0 hT hM hW x0 hBW hRR hPP
 go_in
 go_wp2_with fail;rw[<-HW.o];refine HNEW.o.mono ?_;rintro e W1 ⟨hb1,hcase⟩;have HB1:=zh (HBW.o.trans (hb1.mono HBW.o.size));clear hb1;rcases hcase with⟨hbad,rfl⟩|⟨hgood,fb,b,zb,fp,fc,rfl,hfb,hbb,hzb,hgok,hfa⟩
 ·have hz2:((zbk op f).2 != 0)=true:=by simpa using hbad
  have HBAD:=zh hbad;clear hbad;obtain⟨er,her⟩:=Fld.nm ((zbk op f).2);rw[<-her] at hz2 HBAD ⊢;have HER:=zh her;clear her;go_wp2_with fail;rw[HPP.o];refine⟨HB1.o,.inl ⟨?_,rfl⟩⟩;unfold zer;rw[if_pos (by rw[<-HER.o];exact HBAD.o)]
 obtain⟨s0,hs0⟩:=Fld.nm (zcr op (zbk op f).1 (zax f).k);rw[<-hs0] at hfa;have HS0:=zh hs0;have HGOOD:=zh hgood;have HFA:=zh hfa;have HN:=zh (And.intro hfb (And.intro hbb hzb));have HSO:=zh (show AggOk mm s0 by rw[hs0];exact zlM hgok HM.o);clear hs0 hgood hfa hfb hbb hzb hgok;go_wp2_with fail
 go_loopw [26] (fun i wr=>∃(k:Nat) (s:Agg),k<=l.length/\i=.int .i64 k/\Hid (zch mm f (l.take k) s0=some s)/\Hid (AggOk mm s)/\Hid (FoldAt (ziJ W.heap.size b zb) wr fb b zb op f fp fc s)/\Hid (Below w.heap.size w wr)) (fun i _=>l.length-(intOf i).toNat)
 case atStart=>exact⟨0,s0,by omega,rfl,zh rfl,HSO,HFA,HB1⟩
 case round=>
  obtain⟨k,s,hk,rfl,HR,HO,HFR,HBR⟩:=hrel;by_cases hlt:k<l.length
  ·have hltI:(k:Int)<(l.length:Int):=by omega
   obtain⟨yb,yo,bp,bc,kp,kc,dp,dc,rfl,-,c0,c1,c2,c3,c4,c5,hd⟩:=zci (M.At.below HBR.o HL.o) k hlt;have HDO:=zh (HDK.o l[k] (List.getElem_mem hlt));have HTK:=zh (List.take_succ_eq_append_getElem hlt);generalize hdd:l[k]=d at *;clear hdd;have HD:=zh hd;clear hd;obtain⟨V,hV,y0,hBV⟩:=zao wr 46 (Fld.d6 d bp bc kp kc dp dc);have HV:=zh hV;have HBV:=zh hBV;have HADD:=zh (zkk (w0:=w0) (HFR.o.below hBV) HO.o HOK.o (HD.o.keep (w':=V) (T:=fun k=>¬zas b zb k) (fun j hj hjl=>⟨hBV.block j hjl,fun hh=>by have h1:=HN.o;have h2:=HBW.o.size;rcases hh with e|e <;> omega⟩)) HDO.o (HB0.o.trans ((HBR.o.trans (hBV.mono HBR.o.size)).mono HB0.o.size)) (by have h1:=HN.o;have h2:=HB0.o.size;have h3:=HBW.o.size;omega) HT.o);have HRC:=zh (show zch mm f (l.take (k+1)) s0=zch mm f [d] s by rw[HTK.o,zgT,HR.o];rfl);have HRA:=zh (show zch mm f l s0=zch mm f (d :: l.drop (k+1)) s by
    have e:l=l.take (k+1) ++ l.drop (k+1):=(List.take_append_drop _ _).symm;rw[e,zgT,HRC.o,<-e];by_cases hz:(zcK mm f d s).1=0
    ·rw[zds hz,zds hz];rfl
    ·rw[zd2 hz,zd2 hz];rfl)
   obtain⟨r,hr⟩:=Fld.nm (zcK mm f d s);rw[<-hr] at HADD;have HRR2:=zh hr;obtain⟨er,s2⟩:=r;clear hr hV y0 hBV;go_wp2_with fail;rw[<-HV.o];clear c0 c1 c2 c3 c4 c5;refine HADD.o.mono ?_;rintro e V2 ⟨rfl,hc2,ha2⟩;simp only at ha2 ⊢;have HC2:=zh (hc2.base (HBR.o.trans (HBV.o.mono HBR.o.size)) (fun j hj=>by have h1:=HN.o;have h2:=HBW.o.size;rcases hj with e|e <;> omega));have HA2:=zh ha2;clear hc2 ha2;by_cases hz:er=0
   ·subst hz;have hz0:(zcK mm f d s).1=0:=by rw[<-HRR2.o]
    have HS2:=zh (show AggOk mm s2 by have:=znX HO.o hz0;rwa [<-HRR2.o] at this);have HT2:=zh (show zch mm f (l.take (k+1)) s0=some s2 by rw[HRC.o,zds hz0,<-HRR2.o];rfl);clear hz0;go_wp2_with fail;go_roundw
    case rel=>exact⟨k+1,s2,by omega,by go_num,HT2,HS2,HA2,HC2⟩
    case measure=>simp[intOf];omega
   ·have hz1:(er == 0)=false:=by simpa using hz
    have hz2:(er != 0)=true:=by simpa using hz
    have HZ:=zh hz;clear hz;go_wp2_with fail;rw[HPP.o];refine⟨HC2.o,.inl ⟨?_,rfl⟩⟩;unfold zer;rw[if_neg (by simp[HGOOD.o]),<-HS0.o,HRA.o,zd2 (by rw[<-HRR2.o];exact HZ.o)]
  ·have hkl:k=l.length:=by omega
   have HRF:=zh (show zch mm f l s0=some s by have:=HR.o;rwa [hkl,List.take_length] at this);clear hkl HR;go_wp2_with fail;rw[HPP.o];refine⟨HBR.o,.inr ⟨s,?_,fb,b,zb,fp,fc,rfl,by have h1:=HN.o;have h2:=HBW.o.size;omega,by have h1:=HN.o;have h2:=HBW.o.size;omega,by have h1:=HN.o;have h2:=HBW.o.size;omega,?_,HO.o⟩⟩
   ·unfold zer;rw[if_neg (by simp[HGOOD.o]),<-HS0.o];exact HRF.o
   ·exact HFR.o.shrink (fun k hk=>hk.elim .inl (fun e=>.inr (Nat.lt_of_lt_of_le e HBW.o.size))) ⟨.inl (.inl rfl),.inl (.inr rfl)⟩
theorem zrl {S:Nat->Prop}{W:World}{X:Nat}{d:Dt}{vs:List Value}(hb:BoxN W X 46 vs)(hv:DAt S W d vs)(hX:S X)(hl:vs.length=6):M.At S W (.many 6 ([d].map dtR)) (.slice (some ⟨X,0,none⟩) 1 1):=by
 refine M.At.of (rows:=[d].map dtR) ⟨Nat.le_refl _,by decide⟩ (M.RowsAt.mk (by decide) fun i hi=>?_);have h0:i=0:=by simp at hi;omega
 subst h0;refine⟨X,0,vs,rfl,hX,hl,fun j u hj=>?_,hv⟩;rw[show 0+(0+0*6)+j=j by omega];exact hb.row j u hj
theorem zin (C:Fd->Vl->Vl->Int):∀(l:List Vl) (a n:Nat) (r:Bool),∃n',l.foldl (zaJ C) (.number a n r)=.number (a+l.length) n' r
 | [],a,n,r=>⟨n,rfl⟩
 | v :: t,a,n,r=>by
  obtain⟨n',h⟩:=zin C t (a+1) (zaO n v.nl) r;refine⟨n',?_⟩;rw[List.foldl_cons,List.length_cons];show t.foldl (zaJ C) (.number (a+1) (zaO n v.nl) r)=_;rw[h,show a+(t.length+1)=a+1+t.length by omega]
theorem zo7 {M:Nat}{op:Int}{f:Fd}{d:Dt}{sx:Agg}(h:zer M op f [d]=some sx):(zbk op f).2=0/\zaG f d=0/\∃n:Nat,d.len=n/\n<=4096/\sx=(zbg f d n).foldl (zaJ (zbs M)) (zcr op (zbk op f).1 (zax f).k)/\(zcr op (zbk op f).1 (zax f).k).all=0/\(op=2->∃n',sx=.number n n' true):=by
 unfold zer at h;by_cases ht:(zbk op f).2=0
 ·rw[if_neg (by simp[ht])] at h;obtain⟨s0,hs0⟩:=Fld.nm (zcr op (zbk op f).1 (zax f).k);rw[<-hs0] at h ⊢;by_cases h0:(zcK M f d s0).1=0
  ·rw[zds h0] at h;obtain⟨h1,n,h2,h3,h4,h5⟩:=zkl h0;have e:sx=(zcK M f d s0).2:=(Option.some.inj h).symm;refine⟨ht,h1,n,h2,h3,by rw[e,h5],?_,?_⟩
   ·rw[hs0];unfold zcr;split <;> (try split) <;> (try split) <;> (try split) <;> rfl
   ·intro h2;rw[e,h5,hs0,h2];obtain⟨n',h⟩:=zin (zbs M) (zbg f d n) 0 0 true;refine⟨n',?_⟩;show(zbg f d n).foldl (zaJ (zbs M)) (.number 0 0 true)=_;rw[h,zfS,Nat.zero_add]
  ·rw[zd2 h0] at h;cases h
 ·rw[if_pos ht] at h;cases h
theorem zqa {M:Nat}{f:Fd}{d:Dt}{s:Agg}{n k:Nat}(h0:zaG f d=0)(hn:d.len=n)(hk:k<n)(hs:s.all<2147483647):zeb M f d s [(k:Int)]=(0,zaJ (zbs M) s (zb3 f d k)):=by
 rw[ziK h0 (by simp;omega) (by simp;omega)];simp
theorem zo8 {M:Nat}{f:Fd}{d:Dt}{s:Agg}(h0:zaG f d=0)(hs:s.all<=2147483647):zeb M f d s []=(0,s):=by
 rw[ziK h0 (by simp) (by simp;omega)];simp
theorem zlS {M:Nat}{f:Fd}{d:Dt}{s:Agg}{l:List Int}(h0:zaG f d=0)(h:∃i ∈ l,i<0\/d.len<=i):zeb M f d s l=(2,s):=zhP h0 h
theorem ziL {S:Nat->Prop}{W:World}{X:Nat}{t:TypeId}{l:List Int}(hb:BoxN W X t (l.map (Value.int .i64)))(hS:S X)(h64:∀i ∈ l,zah i):NumsAt S W l (some ⟨X,0,none⟩):=fun j hj=>by
 refine⟨X,0,rfl,hS,?_,h64 _ (List.getElem_mem hj)⟩;rw[Nat.zero_add];exact hb.row j _ (by simp[hj])
def zjM (w:World)(e:Ending)(w':World):Prop:=e=.returned (.bool true)/\Below w.heap.size w w'
theorem TabsAt.below {w w':World}(h:TabsAt w)(hb:Below w.heap.size w w'):TabsAt w':=⟨h.s.below hb,h.v.below hb,Utf8Tabs_below h.t hb⟩
theorem zjN {w:World}{op:Int}{f:Fd}{d:Dt}{p bp kp dp:Option Addr}{cap bc kc dc:Nat}(hop:zah op)(hf:FdAt w f (Fld.f7 f p cap))
  (hd:DAt (fun _=>True) w d (Fld.d6 d bp bc kp kc dp dc)) (hdok:DtOk d) (hT:TabsAt w) (haw:∀V,Below w.heap.size w V->Calls Tryz.prog 6 #[] V (zjM V)) :
  Calls Tryz.prog 4 #[.agg #[.int .i64 op,.string f.nm,.bool f.nl,.int .i64 f.k,.int .i64 f.wd,.int .i64 f.id,.int .i64 f.ix,.slice p f.kids.length cap],.agg #[.int .i64 d.len,.int .i64 d.off,.int .i64 d.nul,.slice bp d.bufs.length bc,.slice kp d.kids.length kc,.slice dp d.dict.length dc]] w (zjM w):=by
 obtain⟨mm,hM⟩:=Fld.nm (zau (zbk op f).1);have HM:=zh (show zau (zbk op f).1<=mm by omega);clear hM;have HF:=zh hf;have HOK:=zh (FdAt.toM hf).1;have HD:=zh (M.AtL.keep (T:=fun k=>k<w.heap.size) (fun k _ hk=>⟨rfl,hk⟩) hd);have HDOK:=zh hdok;have HT:=zh hT;have HAW:=zh haw;have hop':=hop;unfold zah at hop';obtain⟨W,hW,x0,x1,hBW⟩:=zbt w 28 [.int .i64 op,.string f.nm,.bool f.nl,.int .i64 f.k,.int .i64 f.wd,.int .i64 f.id,.int .i64 f.ix,.slice p f.kids.length cap] 46 (Fld.d6 d bp bc kp kc dp dc);have HW:=zh hW;have X0:=zh x0;have X1:=zh x1;have HBW:=zh hBW;clear hf hd hdok hT haw hW x0 x1 hBW;have hdl:=HDOK.o.len;unfold zah at hdl
 go_in
 go_wp2_with fail;rw[<-HW.o];refine(HAW.o W HBW.o).mono ?_;rintro e W1 ⟨rfl,hb1⟩;have HB1:=zh (HBW.o.trans (hb1.mono HBW.o.size));have X0:=zh (X0.o.below hb1 X0.o.lt);have X1:=zh (X1.o.below hb1 X1.o.lt);clear hb1;obtain⟨V,hV,v0,hBV⟩:=zao W1 46 (Fld.d6 d bp bc kp kc dp dc);have HV:=zh hV;have HBV:=zh (HB1.o.trans (hBV.mono HB1.o.size));have HFD:=zh (zlR (mm:=mm) (w0:=w) (l:=[d]) (lc:=1) hop HM.o (HF.o.below (HB1.o.trans (hBV.mono HB1.o.size))) (zrl v0 (M.AtL.keep (T:=fun _=>True) (fun k hk _=>⟨(HB1.o.trans (hBV.mono HB1.o.size)).block k hk,trivial⟩) HD.o) trivial rfl) (fun e he=>by rw[List.mem_singleton.1 he];exact HDOK.o) (HB1.o.trans (hBV.mono HB1.o.size)) HT.o);clear hV v0 hBV;obtain⟨x00,x01,x02,x03,x04,x05,x06,x07⟩:=rr8 X0.o.row;obtain⟨x10,x11,x12,x13,x14,x15⟩:=rr6 X1.o.row;have xl0:=X0.o.lt;have xl1:=X1.o.lt;go_wp2_with fail;rw[<-HV.o];refine HFD.o.mono ?_;rintro e V1 ⟨hb1,hcase⟩;have HB1V:=zh (HBV.o.trans (hb1.mono HBV.o.size));have HWV:=zh (show Below W1.heap.size W1 V by rw[HV.o];exact(Below.refl _ _).alloc (Nat.le_refl _) _);have X0:=zh (X0.o.below (HWV.o.trans (hb1.mono HWV.o.size)) X0.o.lt);have X1:=zh (X1.o.below (HWV.o.trans (hb1.mono HWV.o.size)) X1.o.lt);clear hb1 x00 x01 x02 x03 x04 x05 x06 x07 x10 x11 x12 x13 x14 x15 xl0 xl1 HFD;rcases hcase with⟨-,rfl⟩|⟨sx,hsx,xfb,xb,xzb,xfp,xfc,rfl,hx1,hx2,hx3,hxa,hxo⟩
 ·go_wp2_with fail;go_ret;exact⟨rfl,HB1V.o⟩
 obtain⟨ht,h0,n,hn,hn4,hsx2,hall,htwo⟩:=zo7 hsx;have HXA:=zh hxa;have HXO:=zh hxo;have HTY:=zh ht;have H0:=zh h0;have HN:=zh hn;have HSX:=zh hsx2;have HTWO:=zh htwo;clear hsx hx1 hx2 hx3 hxa hxo ht h0 hsx2 htwo hn;obtain⟨s0,hs0⟩:=Fld.nm (zcr op (zbk op f).1 (zax f).k);rw[<-hs0] at HSX hall;have HS0:=zh hs0;have HALL:=zh hall;clear hs0 hall;have HNEW:=zh (zhK op hop (HF.o.below HB1V.o) (HT.o.s.below HB1V.o));obtain⟨x00,x01,x02,x03,x04,x05,x06,x07⟩:=rr8 X0.o.row;have xl0:=X0.o.lt;go_wp2_with fail;refine HNEW.o.mono ?_;rintro e V2 ⟨hb2,hcase⟩;clear x00 x01 x02 x03 x04 x05 x06 x07 xl0 HNEW;rcases hcase with⟨hbad,-⟩|⟨-,fb,b,zb,fp,fc,rfl,hy1,hy2,hy3,hgok,hya⟩
 ·exact absurd HTY.o hbad
 rw[<-HS0.o] at hya;have HB2:=zh hb2;have HYA:=zh hya;have HY:=zh (And.intro hy1 (And.intro hy2 hy3));have HSO:=zh (show AggOk mm s0 by rw[HS0.o];exact zlM hgok HM.o);have hdn:¬d.len > 5000:=by have:=HN.o;omega
 have x10:=X1.o.below hb2 X1.o.lt |>.row 0 _ rfl;have q5:decide (d.len > 5000)=false:=by have:=HN.o;simp;omega
 have q6:decide (5000<d.len)=false:=by have:=HN.o;simp;omega
 have xl1:=(X1.o.below hb2 X1.o.lt).lt;clear hb2 hya hy1 hy2 hy3 hgok;go_wp2_with fail;clear x10 q5 q6 hdn xl1;have hw1:w.heap.size<=V1.heap.size:=HB1V.o.size;have HW1:=zh hw1;clear hw1
 go_loopw [9] (fun i wr=>∃(k:Nat) (s:Agg),k<=n/\i=.int .i64 k/\Hid (s=(zbg f d k).foldl (zaJ (zbs mm)) s0)/\Hid (AggOk mm s)/\Hid (FoldAt (ziJ V1.heap.size b zb) wr fb b zb op f fp fc s)/\Hid (Below V1.heap.size V1 wr)) (fun i _=>n-(intOf i).toNat)
 case atStart=>exact⟨0,s0,by omega,rfl,zh rfl,HSO,HYA,HB2⟩
 case round=>
  obtain⟨k,s,hk,rfl,HS,HO,HFR,HBR⟩:=hrel;have X1W:=zh (X1.o.below HBR.o X1.o.lt);have hsall:s.all=k:=by
   have h1:=(zhO (zbs mm) (zbg f d k) s0).1;rw[<-HS.o,HALL.o,zfS] at h1;omega
  have HSALL:=zh hsall;clear hsall;obtain⟨x10,x11,x12,x13,x14,x15⟩:=rr6 X1W.o.row;have xl1:=X1W.o.lt;by_cases hlt:k<n
  ·have hltI:(k:Int)<d.len:=by have:=HN.o;omega
   obtain⟨V3,hV3,v3,hBV3⟩:=zao wr 3 [.int .i64 (k:Int)];have HV3:=zh hV3;have HBV3:=zh (HBR.o.trans (hBV3.mono HBR.o.size));have HADD:=zec (M:=mm) (w0:=w) (rows:=[(k:Int)]) (rp:=some ⟨wr.heap.size,0,none⟩) (rc:=1) (HFR.o.below hBV3) HO.o HOK.o (HD.o.keep (w':=V3) (T:=fun j=>¬zas b zb j) (fun j hj _=>⟨(HB1V.o.trans (HBV3.o.mono HB1V.o.size)).block j hj,fun hh=>by have h1:=HY.o;have h2:=HW1.o;rcases hh with e|e <;> omega⟩)) HDOK.o (HB1V.o.trans (HBV3.o.mono HB1V.o.size)) (by have h1:=HY.o;have h2:=HW1.o;omega) HT.o (ziL v3 (by have h1:=HFR.o.agg.lt b HFR.o.agg.own.1;have h2:=HFR.o.agg.lt zb HFR.o.agg.own.2;show ¬zas b zb wr.heap.size;unfold zas;omega) (by intro i hi;rw[List.mem_singleton.1 hi];unfold zah;omega)) (show 1<=maxLen by decide);rw[zqa H0.o HN.o hlt (by have:=HSALL.o;omega)] at HADD;have HADD:=zh HADD;have HS2:=zh (show zaJ (zbs mm) s (zb3 f d k)=(zbg f d (k+1)).foldl (zaJ (zbs mm)) s0 by rw[zgS,List.foldl_append,<-HS.o];rfl);have HO2:=zh (show AggOk mm (zaJ (zbs mm) s (zb3 f d k)) by
    have h1:=zh1 (zdN H0.o).1 (zdN H0.o).2 (i:=k) (by rw[HN.o];omega);exact zh0 HO.o (by have:=HSALL.o;omega) h1.2.2.1 h1.2.2.2)
   obtain⟨s2,hs2⟩:=Fld.nm (zaJ (zbs mm) s (zb3 f d k));rw[<-hs2] at HADD HS2 HO2;clear hV3 v3 hBV3 hs2;go_wp2_with fail;rw[<-HV3.o];refine HADD.o.mono ?_;rintro e V4 ⟨rfl,hc4,ha4⟩;have HA4:=zh ha4;have HB4:=zh (hc4.base HBV3.o (fun j hj=>by have h1:=HY.o;rcases hj with e|e <;> omega));clear hc4 ha4 x10 x11 x12 x13 x14 x15 xl1;go_wp2_with fail;go_roundw
   case rel=>exact⟨k+1,s2,by omega,by go_num,HS2,HO2,HA4,HB4⟩
   case measure=>simp[intOf];omega
  ·have hkn:k=n:=by omega
   have HSE:=zh (show s=sx by rw[HS.o,HSX.o,hkn]);have hnlt:¬(k:Int)<d.len:=by have:=HN.o;omega
   have q1:decide ((k:Int)<d.len)=false:=by have:=HN.o;simp;omega
   clear hkn HS HSALL;have h1s:=HSE.o;subst h1s;have HALN:=zh HXO.o.all;have HA1:=zec (M:=mm) (w0:=w) (rows:=[]) (rp:=none) (rc:=0) HFR.o HO.o HOK.o (HD.o.keep (w':=wr) (T:=fun j=>¬zas b zb j) (fun j hj _=>⟨(HB1V.o.trans (HBR.o.mono HB1V.o.size)).block j hj,fun hh=>by have h1:=HY.o;have h2:=HW1.o;rcases hh with e|e <;> omega⟩)) HDOK.o (HB1V.o.trans (HBR.o.mono HB1V.o.size)) (by have h1:=HY.o;have h2:=HW1.o;omega) HT.o (fun j hj=>by simp at hj) (by decide);rw[zo8 H0.o HALN.o] at HA1;have HA1:=zh HA1;go_wp2_with fail;refine HA1.o.mono ?_;rintro e V4 ⟨rfl,hc4,ha4⟩;have HA4:=zh ha4;have HB4:=zh (hc4.base HBR.o (fun j hj=>by have h1:=HY.o;rcases hj with e|e <;> omega));clear hc4 ha4 x10 x11 x12 x13 x14 x15 xl1 HA1 hnlt q1;have X1W:=zh (X1.o.below HB4.o X1.o.lt);obtain⟨x10,x11,x12,x13,x14,x15⟩:=rr6 X1W.o.row;have xl1:=X1W.o.lt;obtain⟨V5,hV5,v5,hBV5⟩:=zao V4 3 [.int .i64 d.len];have HV5:=zh hV5;have HBV5:=zh (HB4.o.trans (hBV5.mono HB4.o.size));have HA5:=zec (M:=mm) (w0:=w) (rows:=[d.len]) (rp:=some ⟨V4.heap.size,0,none⟩) (rc:=1) (HA4.o.below hBV5) HO.o HOK.o (HD.o.keep (w':=V5) (T:=fun j=>¬zas b zb j) (fun j hj _=>⟨(HB1V.o.trans (HBV5.o.mono HB1V.o.size)).block j hj,fun hh=>by have h1:=HY.o;have h2:=HW1.o;rcases hh with e|e <;> omega⟩)) HDOK.o (HB1V.o.trans (HBV5.o.mono HB1V.o.size)) (by have h1:=HY.o;have h2:=HW1.o;omega) HT.o (ziL v5 (by have h1:=HA4.o.agg.lt b HA4.o.agg.own.1;have h2:=HA4.o.agg.lt zb HA4.o.agg.own.2;show ¬zas b zb V4.heap.size;unfold zas;omega) (by intro i hi;rw[List.mem_singleton.1 hi];exact HDOK.o.len)) (show 1<=maxLen by decide);rw[zlS H0.o ⟨d.len,by simp,.inr (Int.le_refl _)⟩] at HA5;have HA5:=zh HA5;clear hV5 v5 hBV5;go_wp2_with fail;rw[<-HV5.o];refine HA5.o.mono ?_;rintro e V6 ⟨rfl,hc6,ha6⟩;have HA6:=zh ha6;have HB6:=zh (hc6.base HBV5.o (fun j hj=>by have h1:=HY.o;rcases hj with e|e <;> omega));clear hc6 ha6 x10 x11 x12 x13 x14 x15 xl1 HA5;have X1W:=zh (X1.o.below HB6.o X1.o.lt);obtain⟨x10,x11,x12,x13,x14,x15⟩:=rr6 X1W.o.row;have xl1:=X1W.o.lt;obtain⟨V7,hV7,v7,hBV7⟩:=zao V6 3 [.int .i64 0,.int .i64 (-1)];have HV7:=zh hV7;have HBV7:=zh (HB6.o.trans (hBV7.mono HB6.o.size));have HA7:=zec (M:=mm) (w0:=w) (rows:=[0,-1]) (rp:=some ⟨V6.heap.size,0,none⟩) (rc:=2) (HA6.o.below hBV7) HO.o HOK.o (HD.o.keep (w':=V7) (T:=fun j=>¬zas b zb j) (fun j hj _=>⟨(HB1V.o.trans (HBV7.o.mono HB1V.o.size)).block j hj,fun hh=>by have h1:=HY.o;have h2:=HW1.o;rcases hh with e|e <;> omega⟩)) HDOK.o (HB1V.o.trans (HBV7.o.mono HB1V.o.size)) (by have h1:=HY.o;have h2:=HW1.o;omega) HT.o (ziL v7 (by have h1:=HA6.o.agg.lt b HA6.o.agg.own.1;have h2:=HA6.o.agg.lt zb HA6.o.agg.own.2;show ¬zas b zb V6.heap.size;unfold zas;omega) (by intro i hi;simp at hi;rcases hi with rfl|rfl <;> (unfold zah;omega))) (by decide);rw[zlS H0.o ⟨-1,by simp,.inl (by decide)⟩] at HA7;have HA7:=zh HA7;clear hV7 v7 hBV7;go_wp2_with fail;rw[<-HV7.o];refine HA7.o.mono ?_;rintro e V8 ⟨rfl,hc8,ha8⟩;have HA8:=zh ha8;have HB8:=zh (hc8.base HBV7.o (fun j hj=>by have h1:=HY.o;rcases hj with e|e <;> omega));clear hc8 ha8 x10 x11 x12 x13 x14 x15 xl1 HA7;have HVX:=zh (ze9 (HXA.o.below HB8.o) HXO.o);have HVEQ:=zh (show op=2->(zb9 s).1.num=d.len by
    intro h2;obtain⟨n',e⟩:=HTWO.o h2;rw[e,HN.o];rfl)
   obtain⟨vv,hvv⟩:=Fld.nm (zb9 s);rw[<-hvv] at HVX HVEQ;have HVV:=zh hvv;obtain⟨v,er⟩:=vv;simp only at HVX HVEQ;clear hvv;go_wp2_with fail;refine HVX.o.mono ?_;rintro e U1 ⟨hu1,cs,rfl,hv1⟩;obtain⟨vp1,vc1,rfl,-⟩:=hv1.shape;have HU1:=zh (HB8.o.trans (hu1.mono HB8.o.size));have HVU1:=zh hv1;have HY1:=zh (HA8.o.below hu1);obtain⟨Z1,hZ1,z1,hBZ1⟩:=zao U1 39 (Fld.v4 v vp1 vc1);have HZ1:=zh hZ1;have HBZ1:=zh (HU1.o.trans (hBZ1.mono HU1.o.size));have HVZ1:=zh (hv1.below hBZ1);have Z1B:=zh z1;have HVY:=ze9 (HY1.o.below hBZ1) HO.o;rw[<-HVV.o] at HVY;simp only at HVY;have HVY:=zh HVY;have HY2:=zh (HY1.o.below hBZ1);clear hu1 hv1 hZ1 z1 hBZ1 HVX;go_wp2_with fail;rw[<-HZ1.o];refine HVY.o.mono ?_;rintro e U2 ⟨hu2,cs,rfl,hv2⟩;obtain⟨vp2,vc2,rfl,-⟩:=hv2.shape;have HU2:=zh (HBZ1.o.trans (hu2.mono HBZ1.o.size));have HVZ1:=zh (HVZ1.o.below hu2);have Z1B:=zh (Z1B.o.below hu2 Z1B.o.lt);obtain⟨Z2,hZ2,z2,hBZ2⟩:=zao U2 39 (Fld.v4 v vp2 vc2);have HZ2:=zh hZ2;have HBZ2:=zh (HU2.o.trans (hBZ2.mono HU2.o.size));have HVZ1:=zh (HVZ1.o.below hBZ2);have HVZ2:=zh (hv2.below hBZ2);have Z1B:=zh (Z1B.o.below hBZ2 Z1B.o.lt);have Z2B:=zh z2;have HVW:=ze9 ((HY2.o.below hu2).below hBZ2) HO.o;rw[<-HVV.o] at HVW;simp only at HVW;have HVW:=zh HVW;clear hu2 hv2 hZ2 z2 hBZ2 HVY;go_wp2_with fail;rw[<-HZ2.o];refine HVW.o.mono ?_;rintro e U3 ⟨hu3,cs,rfl,hv3⟩;obtain⟨vp3,vc3,rfl,-⟩:=hv3.shape;have HU3:=zh (HBZ2.o.trans (hu3.mono HBZ2.o.size));obtain⟨Z3,hZ3,z3,hBZ3⟩:=zao U3 39 (Fld.v4 v vp3 vc3);have HZ3:=zh hZ3;have HBZ3:=zh (HU3.o.trans (hBZ3.mono HU3.o.size));have HVZ1:=zh ((HVZ1.o.below hu3).below hBZ3);have HVZ2:=zh ((HVZ2.o.below hu3).below hBZ3);have HVZ3:=zh (hv3.below hBZ3);have Z1B:=zh ((Z1B.o.below hu3 Z1B.o.lt).below hBZ3 (Z1B.o.below hu3 Z1B.o.lt).lt);have Z2B:=zh ((Z2B.o.below hu3 Z2B.o.lt).below hBZ3 (Z2B.o.below hu3 Z2B.o.lt).lt);have Z3B:=zh z3;clear hu3 hv3 hZ3 z3 hBZ3 HVW;have q0:(er != er)=false:=by simp
   obtain⟨a0,a1,a2,a3⟩:=rr4 Z1B.o.row;obtain⟨b0,b1,b2,b3⟩:=rr4 Z2B.o.row;obtain⟨c0,c1,c2,c3⟩:=rr4 Z3B.o.row;have zl1:=Z1B.o.lt;have zl2:=Z2B.o.lt;have zl3:=Z3B.o.lt;rw[HZ3.o] at a0 a1 a2 a3 b0 b1 b2 b3 c0 c1 c2 c3 zl1 zl2 zl3;have HSM:=zim v v Z3 _ _ (HVZ1.o.mono fun _ _=>trivial) (HVZ2.o.mono fun _ _=>trivial);rw[zgR] at HSM;have HSM:=zh HSM;go_wp2_with fail;rw[<-HZ3.o];refine HSM.o.mono ?_;rintro e S1 ⟨rfl,hs1⟩;have HS1:=zh (HBZ3.o.trans (hs1.mono HBZ3.o.size));have Z1B:=zh (Z1B.o.below hs1 Z1B.o.lt);have Z2B:=zh (Z2B.o.below hs1 Z2B.o.lt);have Z3B:=zh (Z3B.o.below hs1 Z3B.o.lt);have HSM:=zim v v S1 _ _ ((HVZ2.o.below hs1).mono fun _ _=>trivial) ((HVZ3.o.below hs1).mono fun _ _=>trivial);rw[zgR] at HSM;have HSM:=zh HSM;clear hs1 a0 a1 a2 a3 b0 b1 b2 b3 c0 c1 c2 c3 zl1 zl2 zl3 HVZ1 HVZ2 HVZ3;obtain⟨b0,b1,b2,b3⟩:=rr4 Z2B.o.row;obtain⟨c0,c1,c2,c3⟩:=rr4 Z3B.o.row;have zl2:=Z2B.o.lt;have zl3:=Z3B.o.lt;go_wp2_with fail;refine HSM.o.mono ?_;rintro e S2 ⟨rfl,hs2⟩;have HS2:=zh (HS1.o.trans (hs2.mono HS1.o.size));have Z1B:=zh (Z1B.o.below hs2 Z1B.o.lt);have X0E:=zh (X0.o.below HS2.o X0.o.lt);have X1E:=zh (X1.o.below HS2.o X1.o.lt);clear hs2 b0 b1 b2 b3 c0 c1 c2 c3 zl2 zl3;have a1:=Z1B.o.row 1 _ rfl;have y0:=X0E.o.row 0 _ rfl;have y1:=X1E.o.row 0 _ rfl;have zl1:=Z1B.o.lt;have yl0:=X0E.o.lt;have yl1:=X1E.o.lt;by_cases h2:op=2
   ·have hq:=HVEQ.o h2;have q2:(op != 2)=false:=by simp[h2]
    have q3:(v.num == d.len)=true:=by simp[hq]
    have HB:=zh (HB1V.o.trans (HS2.o.mono HB1V.o.size));clear hq h2;go_wp2_with fail;go_ret;exact⟨rfl,HB.o⟩
   ·have q2:(op != 2)=true:=by simp[h2]
    have HB:=zh (HB1V.o.trans (HS2.o.mono HB1V.o.size));clear h2;go_wp2_with fail;go_ret;exact⟨rfl,HB.o⟩
theorem zm2 {S:Nat->Prop}{W:World}{b:Nat}{t:TypeId}{cs:List Value}{rows:List (List M)}{sz:Nat}(hb:BoxN W b t cs)(hS:S b)(h0:0<sz)(hm:rows.length<=maxLen)(hr:∀(i:Nat) (hi:i<rows.length),((cs.drop (i*sz)).take sz).length=sz/\M.AtL S W rows[i] ((cs.drop (i*sz)).take sz)) :
  M.At S W (.many sz rows) (.slice (some ⟨b,0,none⟩) rows.length rows.length):=by
 refine M.At.of ⟨Nat.le_refl _,hm⟩ (M.RowsAt.mk h0 fun i hi=>?_);obtain⟨h1,h2⟩:=hr i hi;refine⟨b,0,_,rfl,hS,h1,fun j u hj=>?_,h2⟩;have hjs:j<sz:=by have:=(List.getElem?_eq_some_iff.1 hj).1;rw[h1] at this;exact this
 rw[List.getElem?_take,if_pos hjs,List.getElem?_drop] at hj;have:=BoxN.row hb (i*sz+j) u hj
 rwa [show 0+(0+i*sz)+j=i*sz+j by omega]
theorem zkm {S:Nat->Prop}{W:World}{b:Nat}{t:TypeId}{s:ByteArray}(h:BoxN W b t (s.data.toList.map fun x=>Value.int .u8 (x.toNat:Int)))(hs:s.size<=maxLen)(hS:S b):M.At S W (zby s) (.slice (some ⟨b,0,none⟩) s.size s.size):=by
 have:=zm2 (S:=S) (rows:=s.data.toList.map fun x=>[M.one (.int .u8 (x.toNat:Int))]) h hS (sz:=1) (by decide) (by simpa using hs) (fun i hi=>by
  have hi':i<s.data.toList.length:=by simpa using hi
  have e:((s.data.toList.map fun x=>Value.int .u8 (x.toNat:Int)).drop (i*1)).take 1=[Value.int .u8 (s.data.toList[i].toNat:Int)]:=by
   rw[Nat.mul_one,List.drop_eq_getElem_cons (by simpa using hi')];simp
  rw[e,List.getElem_map];exact⟨rfl,M.AtL.cons M.At.one M.AtL.nil⟩)
 have hl:(s.data.toList.map fun x=>[M.one (.int .u8 (x.toNat:Int))]).length=s.size:=by simp
 rw[hl] at this;exact this
def zcW:Fd:=.mk ⟨#[97]⟩ false 3 0 0 0 []
def eightD:Dt:=.mk 2 0 0 [⟨#[]⟩,⟨#[127,127]⟩] [] []
theorem zgU:zbk 3 zcW=(.mk ⟨#[97]⟩ true 6 0 0 0 [],0):=by kernel_rfl
theorem zmH:zcr 3 (zbk 3 zcW).1 (zax zcW).k=.wholes 0 0 6 0:=by rw[zgU];rfl
theorem zo9 (M:Nat):zcK M zcW eightD (.wholes 0 0 6 0)=(0,.wholes 2 0 6 254):=by
 have h0:zaG zcW eightD=0:=by kernel_rfl
 rw[zjL h0 (by show ¬2147483647-((0:Nat):Int)<2;omega)];have h1:zbg zcW eightD eightD.len.toNat=[.mk false 127 ⟨#[]⟩ [],.mk false 127 ⟨#[]⟩ []]:=by kernel_rfl
 rw[h1];rfl
theorem zlT:FdOk zcW:=FdOk.mk (by decide) ⟨⟨by decide,by decide⟩,⟨by decide,by decide⟩,⟨by decide,by decide⟩,⟨by decide,by decide⟩⟩ (fun g hg=>by cases hg)
theorem zlU (w:World):FdAt w zcW (Fld.f7 zcW none 0):=by
 refine FdAt.ofM (S:=fun _=>True) zlT ?_;show M.AtL _ w [.one _,.one _,.one _,.one _,.one _,.one _,.many 7 []] _;exact M.AtL.cons M.At.one (M.AtL.cons M.At.one (M.AtL.cons M.At.one (M.AtL.cons M.At.one (M.AtL.cons M.At.one (M.AtL.cons M.At.one (M.AtL.cons (M.At.nil _ w 7) M.AtL.nil))))))
theorem zpa:AggOk 1 (.wholes 0 0 6 0):=⟨Nat.le_refl _,by show(0:Nat)<=2147483647;omega,by show(0:Int).natAbs<=0*_;simp⟩
theorem zqZ:AggOk 1 (.wholes 2 0 6 254):=⟨by show(0:Nat)<=2;omega,by show(2:Nat)<=2147483647;omega,by show(254:Int).natAbs<=2*2 ^ 64;decide⟩
theorem zio (w:World):Calls Tryz.prog 16 #[] w fun e w'=>e=.returned (.agg #[.string ⟨#[97]⟩,.bool false,.int .i64 3,.int .i64 0,.int .i64 0,.int .i64 0,.slice none 0 0])/\w'=w.alloc (.cells #[.string ⟨#[97]⟩,.bool false,.int .i64 3,.int .i64 0,.int .i64 0,.int .i64 0,.slice none 0 0] 26):=by
 go_in
 go_wp2_with fail;exact bodyPost_ret (ziT (i:=0) rfl rfl (BoxN.new w 26 [.string ⟨#[97]⟩,.bool false,.int .i64 3,.int .i64 0,.int .i64 0,.int .i64 0,.slice none 0 0]).row) rfl ⟨rfl,rfl⟩
theorem zpb {w:World}(hT:TabsAt w):Calls Tryz.prog 6 #[] w (zjM w):=by
 have HT:=zh hT;clear hT;obtain⟨W,hW,-,hBW⟩:=zao w 26 [.string ⟨#[97]⟩,.bool false,.int .i64 3,.int .i64 0,.int .i64 0,.int .i64 0,.slice none 0 0];have HW:=zh hW;have HBW:=zh hBW;have HNEW:Hid (Calls Tryz.prog 11 #[.int .i64 3,.agg #[.string ⟨#[97]⟩,.bool false,.int .i64 3,.int .i64 0,.int .i64 0,.int .i64 0,.slice none 0 0]] W (znP W 3 zcW)):=zh (zhK (f:=zcW) (p:=none) (cap:=0) 3 ⟨by decide,by decide⟩ (zlU W) (HT.o.s.below hBW));clear hW hBW
 go_in
 go_wp2_with fail;refine(zio _).mono ?_;rintro e w' ⟨rfl,rfl⟩;go_wp2_with fail;rw[<-HW.o];refine HNEW.o.mono ?_;rintro e V1 ⟨hb1,hcase⟩;clear HNEW;rcases hcase with⟨hbad,-⟩|⟨-,fb,b,zb,fp,fc,rfl,hy1,hy2,hy3,hgok,hya⟩
 ·rw[zgU] at hbad;exact absurd rfl hbad
 rw[zmH] at hya;have HB1:=zh (HBW.o.trans (hb1.mono HBW.o.size));have HYA:=zh hya;have HY:=zh (And.intro hy1 (And.intro hy2 hy3));clear hb1 hya hy1 hy2 hy3 hgok;obtain⟨A0,hA0⟩:=Fld.nm (V1.alloc (.cells #[] 5));obtain⟨A1,hA1⟩:=Fld.nm (A0.alloc (.cells #[.int .u8 127,.int .u8 127] 5));obtain⟨A2,hA2⟩:=Fld.nm (A1.alloc (.cells #[.slice (some ⟨V1.heap.size,0,none⟩) 0 0,.slice (some ⟨V1.heap.size+1,0,none⟩) 2 2] 58));have z0:A0.heap.size=V1.heap.size+1:=by rw[hA0,World.size_alloc]
 have z1:A1.heap.size=V1.heap.size+1+1:=by rw[hA1,World.size_alloc,z0]
 have b0:BoxN A2 V1.heap.size 5 []:=by rw[hA2,hA1,hA0];exact((BoxN.new V1 5 []).alloc _).alloc _
 have b1:BoxN A2 (V1.heap.size+1) 5 [.int .u8 127,.int .u8 127]:=by rw[hA2,hA1];exact(BoxN.new' z0 5 [.int .u8 127,.int .u8 127]).alloc _
 have b2:BoxN A2 (V1.heap.size+1+1) 58 [.slice (some ⟨V1.heap.size,0,none⟩) 0 0,.slice (some ⟨V1.heap.size+1,0,none⟩) 2 2]:=by rw[hA2];exact BoxN.new' z1 58 _
 have hBA:Below V1.heap.size V1 A2:=by
  rw[hA2,hA1,hA0];exact(((Below.refl _ V1).alloc (Nat.le_refl _) _).alloc (by simp) _).alloc (by simp;omega) _
 have hlt:=HYA.o.agg.lt;have hfar:∀k,V1.heap.size<=k->¬zas b zb k:=fun k hk h=>by
  have h1:=hlt b (.inl (.inl rfl));have h2:=hlt zb (.inl (.inr rfl));rcases h with e|e <;> omega
 have hdat:DAt (fun k=>¬zas b zb k) A2 eightD [.int .i64 eightD.len,.int .i64 eightD.off,.int .i64 eightD.nul,.slice (some ⟨V1.heap.size+1+1,0,none⟩) eightD.bufs.length 2,.slice none eightD.kids.length 0,.slice none eightD.dict.length 0]:=by
  show M.AtL _ A2 [.one _,.one _,.one _,zeu _,.many 6 [],.many 6 []] _;refine M.AtL.cons M.At.one (M.AtL.cons M.At.one (M.AtL.cons M.At.one (M.AtL.cons ?_ (M.AtL.cons (M.At.nil _ A2 6) (M.AtL.cons (M.At.nil _ A2 6) M.AtL.nil)))));refine zm2 (rows:=[[zby ⟨#[]⟩],[zby ⟨#[127,127]⟩]]) b2 (hfar _ (by omega)) (sz:=1) (by decide) (by decide) (fun i hi=>?_);have hi2:i<2:=hi
  match i,hi2 with
  | 0,_=>exact⟨rfl,M.AtL.cons (zkm (s:=⟨#[]⟩) b0 (by decide) (hfar _ (Nat.le_refl _))) M.AtL.nil⟩
  | 1,_=>exact⟨rfl,M.AtL.cons (zkm (s:=⟨#[127,127]⟩) b1 (by decide) (hfar _ (by omega))) M.AtL.nil⟩
 have HADD:=zkk (M:=1) (w0:=w) (HYA.o.below hBA) (zpa:AggOk 1 (.wholes 0 0 6 0)) zlT hdat (.mk ⟨by decide,by decide⟩ (fun e he=>by cases he) (fun e he=>by cases he)) (HB1.o.trans (hBA.mono HB1.o.size)) (by have h1:=HY.o;have h2:=HBW.o.size;omega) HT.o;rw[zo9] at HADD;have HADD:Hid (Calls Tryz.prog 17 #[.pointer (some ⟨fb,0,none⟩),.agg #[.int .i64 2,.int .i64 0,.int .i64 0,.slice (some ⟨V1.heap.size+1+1,0,none⟩) 2 2,.slice none 0 0,.slice none 0 0]] A2 (znV (ziJ W.heap.size b zb) A2 fb b zb 3 zcW fp fc (0,.wholes 2 0 6 254))):=zh HADD;have HA2:=zh (show A2=((V1.alloc (.cells #[] 5)).alloc (.cells #[.int .u8 127,.int .u8 127] 5)).alloc (.cells #[.slice (some ⟨V1.heap.size,0,none⟩) 0 0,.slice (some ⟨V1.heap.size+1,0,none⟩) 2 2] 58) by rw[hA2,hA1,hA0]);have HBA:=zh (HB1.o.trans (hBA.mono HB1.o.size));have HFAR:=zh (show w.heap.size<=b/\w.heap.size<=zb by have h1:=HY.o;have h2:=HBW.o.size;omega);clear hA0 hA1 hA2 z0 z1 b0 b1 b2 hBA hlt hfar hdat;go_wp2_with fail;rw[<-HA2.o];refine HADD.o.mono ?_;rintro e V2 ⟨rfl,hc2,ha2⟩;have HB2:=zh (hc2.base HBA.o (fun j hj=>by have h1:=HFAR.o;rcases hj with e|e <;> omega));have HV:Hid (Calls Tryz.prog 9 #[.pointer (some ⟨fb,0,none⟩)] V2 (zd9 V2 (.mk false 254 ⟨#[]⟩ []) 0)):=zh (ze9 (M:=1) ha2 (zqZ:AggOk 1 (.wholes 2 0 6 254)));clear hc2 ha2 HADD;go_wp2_with fail;refine HV.o.mono ?_;rintro e V3 ⟨hb3,cs,rfl,hv3⟩;obtain⟨vp,vc,rfl,-⟩:=hv3.shape;have HB3:=zh (HB2.o.trans (hb3.mono HB2.o.size));obtain⟨Z,hZ,z1,hBZ⟩:=zao V3 39 [.bool false,.int .i64 254,.string ⟨#[]⟩,.slice vp 0 vc];have HZ:=zh hZ;have ZB:=zh z1;have HBZ:=zh (HB3.o.trans (hBZ.mono HB3.o.size));clear hb3 hv3 hZ z1 hBZ HV;go_wp2_with fail;rw[show Vl.num (.mk false 254 ⟨#[]⟩ [])=254 from rfl,show Vl.nl (.mk false 254 ⟨#[]⟩ [])=false from rfl,show Vl.tx (.mk false 254 ⟨#[]⟩ [])=⟨#[]⟩ from rfl,show(Vl.kids (.mk false 254 ⟨#[]⟩ [])).length=0 from rfl];rw[<-HZ.o];refine(zio _).mono ?_;rintro e w4 ⟨rfl,hw4⟩;have hB4:Below Z.heap.size Z w4:=by rw[hw4];exact(Below.refl _ Z).alloc (Nat.le_refl _) _
 have HB4:=zh (HBZ.o.trans (hB4.mono HBZ.o.size));have ZB:=zh (ZB.o.below hB4 ZB.o.lt);have HTY:Hid (Calls Tryz.prog 7 #[.int .i64 3,.agg #[.string ⟨#[97]⟩,.bool false,.int .i64 3,.int .i64 0,.int .i64 0,.int .i64 0,.slice none 0 0]] w4 (zgQ w4 (zbk 3 zcW))):=zh (zji (f:=zcW) (p:=none) (cap:=0) 3 ⟨by decide,by decide⟩ (zlU w4) (HT.o.s.below HB4.o));clear hw4 hB4;go_wp2_with fail;refine HTY.o.mono ?_;rintro e V5 ⟨gp,gc,rfl,hg,hb5⟩;rw[zgU];have HB5:=zh (HB4.o.trans (hb5.mono HB4.o.size));have ZB:=zh (ZB.o.below hb5 ZB.o.lt);clear hg hb5 HTY;rw[show Fd.nm (.mk ⟨#[97]⟩ true 6 0 0 0 [])=⟨#[97]⟩ from rfl,show Fd.nl (.mk ⟨#[97]⟩ true 6 0 0 0 [])=true from rfl,show Fd.k (.mk ⟨#[97]⟩ true 6 0 0 0 [])=6 from rfl,show Fd.wd (.mk ⟨#[97]⟩ true 6 0 0 0 [])=0 from rfl,show Fd.id (.mk ⟨#[97]⟩ true 6 0 0 0 [])=0 from rfl,show Fd.ix (.mk ⟨#[97]⟩ true 6 0 0 0 [])=0 from rfl,show(Fd.kids (.mk ⟨#[97]⟩ true 6 0 0 0 [])).length=0 from rfl];have y0:=ZB.o.row 0 _ rfl;have y1:=ZB.o.row 1 _ rfl;have yl:=ZB.o.lt;go_wp2_with fail;go_ret;exact⟨rfl,HB5.o.alloc HB5.o.size _⟩
end Go.Fld
