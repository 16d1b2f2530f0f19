import Derived.Test.YthocbeghnkacnaaGreatDoorT01
import GoSem.Claim
import GoSem.ClaimJoined
import GoSem.ClaimMapViews
import Derived.JoinedTies
import Derived.KernelRfl
import Derived.WalkKit
import Derived.ProofKit
import Derived.OpenShut
import Derived.ShutString
import Derived.ChangeOld
import Derived.Below
import Derived.SizedLaws
import Derived.Carry
set_option linter.unusedVariables false
set_option linter.unusedSimpArgs false
set_option linter.unnecessarySimpa false
set_option maxRecDepth 100000
set_option maxHeartbeats 16000000
namespace Go.Am.LawFrame
open Go Go.ChangeShapes Go.WideShapes Go.ChangeAt Go.RowKit
variable {H:Type} {enc:TypeId × Value->H} {P:Program}
theorem trodAll_below (hl:laidOutB P=true){W W':World}(hb:Below W.heap.size W W') :
  ∀ {ts:List TypeId} {vs:List Value} {ds:List (DataW H)} {ps:List MemPlace},(∀t ∈ ts,P.readableRec t=true/\t<P.types.size) ->
   DataW.TrodAll enc P W 0 (fun _=>true) true ts vs ds ps->DataW.TrodAll enc P W' 0 (fun b=>decide (b<W.heap.size)) true ts vs ds ps
 | [],[],[],_,_,h=>h
 | t :: ts,v :: vs,d :: ds,ps,hr,⟨p,q,h1,h2,e⟩=>by
  have hlt:∀x ∈ p,x.block<W.heap.size:=by obtain⟨m,hm⟩:=h1;exact DataW.trod_lt m _ _ _ hm
  exact⟨p,q,Below.trod hl (hr t (by simp)).1 (hr t (by simp)).2 h1 hb hlt,trodAll_below hl hb (fun x hx=>hr x (by simp[hx])) h2,e⟩
structure Told (enc:TypeId × Value->H)(P:Program)(fn:Func)(W:World)(args:Array Value)(ds:List (DataW H)):Prop where
 trod:∃p,DataW.TrodAll enc P W 0 (fun _=>true) true fn.params.toList args.toList ds p/\W.noneFrozen p
 ok:∃base,∀(j:Nat) t v,fn.params[j]?=some t->args[j]?=some v->Value.okWide P W .any base t v
 sized:(DataW.weightsEach P fn.params.toList ds).all (·<=reachBytes)=true
def IsLaw (s:ChangeSpec)(n:Nat):Prop:=s.vars=[]/\∀(H:Type) (ds:List (DataW H)),ds.length=n->s.fn H ds = { results:=[.lit (.bool true)],args:=ds }
theorem trodAll_length {w:World}{base:Nat}{spare:Nat->Bool}{held:Bool}:∀ {ts:List TypeId} {vs:List Value} {ds:List (DataW H)} {ps:List MemPlace},DataW.TrodAll enc P w base spare held ts vs ds ps->ds.length=ts.length
 | [],[],[],_,_=>rfl
 | t :: ts,v :: vs,d :: ds,ps,⟨p,q,h1,h2,e⟩=>by simp[trodAll_length h2]
theorem lifted {C:Checked}{os:Os}{f:FuncId}{fn:Func}{s:ChangeSpec}{tb:TypeId}{laid:List (String × DataW Unit)}
  (own:ownKnob C.prog.godebug=none) (started:os.Started) (noInit:C.prog.inits.idxOf? f=none) (hfn:C.prog.funcs[f]?=some fn)
  (hs:IsLaw s fn.params.size) (hres:fn.resultTypes=#[tb]) (htb:C.prog.underlying tb=some .bool)
  (hl:laidOutB C.prog=true) (hr:∀t ∈ fn.params.toList,C.prog.readableRec t=true/\t<C.prog.types.size)
  (witness:∃(w:World) (tape:Tape) (i:Input),w.os=os/\(w.forCall tape i).Shaped C.prog/\i.vars=[]/\Input.okWide C.prog (w.forCall tape i) .any w.heap.size f i /\
   ((s.pre enc C.prog fn [] false (w.forCall tape i).memory i.args/\laidMetH C.prog laid (w.forCall tape i).memory)/\sizedMet enc C.prog fn (OpenSpec.ofChange s) false (w.forCall tape i).memory i.args)/\({}:Assume).holds C.prog (lone (Frame.enter C.prog f i.args .normal) [] (w.forCall tape i)))
  (walk:∀(W:World) (args:Array Value) (ds:List (DataW H)),Told enc C.prog fn W args ds->laidMetH C.prog laid W ->
   Calls C.prog f args W fun e W'=>e=.returned (.bool true)/\Below W.heap.size W W') :
  ReturnsInHanded {} C os f .any (fun w args=>(s.pre enc C.prog fn [] false w args/\laidMetH C.prog laid w)/\sizedMet enc C.prog fn (OpenSpec.ofChange s) false w args) (s.post enc C.prog fn false true false false):=by
 refine returnsInHanded_of_change_and (X:=fun w _=>laidMetH C.prog laid w) (fun _ _ _ hh h=>h.of_heap hh) own started noInit hfn witness ?_;intro W base args ds gs before hval hW _ hsz hL _;have hW':=hW;obtain⟨p,q,hA,hV,rfl,hfz,hnd⟩:=hW;have hgs:gs=[]/\q=[]:=by
  rw[hs.1] at hV;cases gs with
  | nil=>exact⟨rfl,hV⟩
  | cons _ _=>exact hV.elim
 obtain⟨rfl,rfl⟩:=hgs;have hlen:=trodAll_length hA;have hfd:s.fn H (ds ++ []) = { results:=[.lit (.bool true)],args:=ds }:=by rw[List.append_nil];exact hs.2 H ds (by simpa using hlen)
 have hvt:s.plain.varTypes C.prog=[]:=by simp[DataSpec.varTypes,ChangeSpec.plain,hs.1]
 refine(walk W args ds ⟨⟨p,hA,fun b off hp=>hfz b off (by simp[hp])⟩,⟨base,hval⟩,by simpa [hvt] using hsz⟩ hL).mono fun e W' ⟨he,bel⟩=>?_;subst he;refine⟨_,rfl,ds,[],p ++ [],[],p,[],hW',?_,?_,?_,bel.frame _,fun h=>by cases h⟩
 ·rw[hfd,hres];exact trodAll_mk1 (shut_bool htb _)
 ·rw[hfd];exact trodAll_below hl bel hr hA
 ·rw[hfd,hs.1];exact rfl
end Go.Am.LawFrame
