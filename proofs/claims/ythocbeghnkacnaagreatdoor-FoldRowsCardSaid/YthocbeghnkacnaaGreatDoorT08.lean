import Derived.Test.YthocbeghnkacnaaGreatDoorT00
import Derived.OrdersHeld
import Derived.RegionTactic
import Derived.Deep.RegionWith
set_option linter.unusedVariables false
set_option linter.unusedSimpArgs false
set_option linter.unnecessarySimpa false
set_option maxRecDepth 100000
set_option maxHeartbeats 16000000
namespace Go.Fld.Late
open Go
section
variable {P:Program} {ops:Array Oper} {Q:Exit->Act->World->Prop} {md:Region.Mode} {S:World->Prop} {late:Nat->Bool}
def AnyL (P:Program)(md:Region.Mode)(ops:Array Oper)(Q:Exit->Act->World->Prop)(S:World->Prop)(late:Nat->Bool):Nat->Array Bool->Act->World->Prop
 | 0,listed,a,w=>Region.ready md ops listed=[]/\Q .normal a w
 | fuel+1,listed,a,w=>
  (Region.ready md ops listed=[]->Q .normal a w) /\
  ∀i ∈ Region.ready md ops listed,wpOp P ops Q i (fun a' w'=>(late i=false->S w')/\AnyL P md ops Q S late fuel (listed.setIfInBounds i true) a' w') a w
theorem any_of:∀(fuel:Nat) (listed:Array Bool) (a:Act) (w:World),AnyL P md ops Q S late fuel listed a w->wpAny P md ops Q fuel listed a w
 | 0,_,_,_,h=>h
 | fuel+1,_,_,_,h=>⟨h.1,fun i hi=>wpOp_mono (fun a' w' h'=>any_of fuel _ a' w' h'.2) (h.2 i hi)⟩
def waits (md:Region.Mode)(ops:Array Oper)(late:Nat->Bool)(i:Nat):Bool:=
 (List.range ops.size).all fun j=>!late j || (match ops[j]? with|some o=>o.after.any fun e=>Region.binds md e && e.on == i|none=>true)
theorem waits_spec {i:Nat}(h:waits md ops late i=true){j:Nat}{oj:Oper}(hj:ops[j]?=some oj)(hl:late j=true):∃e ∈ oj.after,Region.binds md e=true/\e.on=i:=by
 have hlt:j<ops.size:=(Array.getElem?_eq_some_iff.1 hj).1;have:=List.all_eq_true.1 h j (List.mem_range.2 hlt);simp only[hl,hj,Bool.not_true,Bool.false_or] at this;obtain⟨e,he,hb⟩:=Array.any_eq_true'.1 this;simp only[Bool.and_eq_true,beq_iff_eq] at hb;exact⟨e,he,hb.1,hb.2⟩
theorem first {i:Nat}{oi:Oper}{v:Value}(hi:ops[i]?=some oi)(hsel:∀(j:Nat) (o:Oper) cs b,ops[j]?=some o->o.op≠.select cs b)
  (hQ:∀c a w,Q (.panic c) (a.put oi.dst v) w->Q (.panic c) a w) (hwait:waits md ops late i=true) :
  ∀(fuel:Nat) (listed:Array Bool) (a:Act) (w:World),
   (∀j oj,ops[j]?=some oj->j≠i->listed.getD j true=false->(∀e ∈ oj.after,Region.binds md e=true->e.on≠i)->oi.apart ops oj=true) ->
   i ∈ Region.ready md ops listed->YieldsIf P ops S oi v a->S w ->
   AnyL P md ops Q S late fuel (listed.setIfInBounds i true) (a.put oi.dst v) w->AnyL P md ops Q S late (fuel+1) listed a w:=by
 intro fuel
 induction fuel with
 | zero=>
  intro listed a w _ hr hy hS H;refine⟨fun h=>(by rw[h] at hr;cases hr),fun j hj=>?_⟩;by_cases hji:j=i
  ·subst hji;exact hy.wpOp hi hS ⟨fun _=>hS,H⟩
  ·have h0:=ready_mono hj hji;rw[H.1] at h0;cases h0
 | succ fuel ih=>
  intro listed a w hfree hr hy hS H;refine⟨fun h=>(by rw[h] at hr;cases hr),fun j hj=>?_⟩;by_cases hji:j=i
  ·subst hji;exact hy.wpOp hi hS ⟨fun _=>hS,H⟩
  ·have h1:=H.2 j (ready_mono hj hji);obtain⟨hjun,oj,hoj,hall⟩:=mem_ready.1 hj;have hnot:∀e ∈ oj.after,Region.binds md e=true->e.on≠i:=fun e he hb heq=>by
    have g1:=hall e he hb;have g0:=(mem_ready.1 hr).1;rw[heq] at g1;rcases Nat.lt_or_ge i listed.size with g|g
    ·simp[g] at g0 g1;rw[g0] at g1;cases g1
    ·simp[Array.getElem?_eq_none g] at g1
   have hlate:late j=false:=by
    cases hl:late j with
    | false=>rfl
    | true=>
     obtain⟨e,he,hb,heq⟩:=waits_spec hwait hoj hl;exact absurd heq (hnot e he hb)
   have h2:=wpOp_putIf hoj (hfree j oj hoj hji hjun hnot) (fun cs b=>hsel i oi cs b hi) (fun cs b=>hsel j oj cs b hoj) hQ hy h1;have hfree':∀k ok,ops[k]?=some ok->k≠i->(listed.setIfInBounds j true).getD k true=false ->
     (∀e ∈ ok.after,Region.binds md e=true->e.on≠i)->oi.apart ops ok=true:=fun k ok hk hki hun hno=>by
    refine hfree k ok hk hki ?_ hno;by_cases hjk:j=k
    ·subst hjk;exact hjun
    ·rw[getD_set_ne true hjk] at hun;exact hun
   refine wpOp_mono (fun a' w' h3=>⟨fun _=>h3.2.1 hlate,ih (listed.setIfInBounds j true) a' w' hfree' (ready_mono hr (Ne.symm hji)) h3.1 (h3.2.1 hlate) ?_⟩) h2;rw[Array.setIfInBounds_comm _ _ hji];exact h3.2.2
theorem take {i:Nat}{oi:Oper}{v:Value}{fuel:Nat}{listed:Array Bool}{a:Act}{w:World}(hi:ops[i]?=some oi)
  (hs:Region.noSelect ops=true) (hf:Region.free md ops listed i=true) (hr:(Region.ready md ops listed).contains i=true) (hwait:waits md ops late i=true)
  (hQ:∀c a w,Q (.panic c) (a.put oi.dst v) w->Q (.panic c) a w) (hy:YieldsIf P ops S oi v a) (hS:S w)
  (h:AnyL P md ops Q S late fuel (listed.setIfInBounds i true) (a.put oi.dst v) w):AnyL P md ops Q S late (fuel+1) listed a w:=
 first hi (Region.noSelect_spec hs) hQ hwait fuel listed a w (Region.free_spec hi hf) (by simpa using hr) hy hS h
theorem one {i:Nat}{o:Oper}{fuel:Nat}{listed:Array Bool}{a:Act}{w:World}(hr:Region.ready md ops listed=[i])(hi:ops[i]?=some o)
  (h:∀K:Act->World->Prop,(∀a' w',(late i=false->S w')->AnyL P md ops Q S late fuel (listed.setIfInBounds i true) a' w'->K a' w') ->
   if Region.wanted o (yielded ops a.tmps)=true then Oper.wp P o a w K Q else K (a.put o.dst undef) w):AnyL P md ops Q S late (fuel+1) listed a w:=by
 refine⟨fun h0=>(by rw[hr] at h0;cases h0),fun j hj=>?_⟩;rw[hr] at hj;obtain rfl:j=i:=by simpa using hj
 unfold wpOp;simp only[hi];have h1:=h (fun a' w'=>(late j=false->S w')/\AnyL P md ops Q S late fuel (listed.setIfInBounds j true) a' w') (fun a' w' g1 g2=>⟨g1,g2⟩);split
 ·rename_i hw;rw[if_pos hw] at h1;exact .inl h1
 ·rename_i hw;rw[if_neg hw] at h1;exact h1
theorem done {listed:Array Bool}{a:Act}{w:World}(hr:Region.ready md ops listed=[])(h:Q .normal a w):∀fuel,AnyL P md ops Q S late fuel listed a w
 | 0=>⟨hr,h⟩
 | _+1=>⟨fun _=>h,by rw[hr];simp⟩
theorem tk {i:Nat}{oi:Oper}{v:Value}{fuel:Nat}{listed:Array Bool}{a:Act}{w:World}(hi:ops[i]?=some oi)
  (hc:(Region.noSelect ops && (Region.free md ops listed i && ((Region.ready md ops listed).contains i && waits md ops late i)))=true)
  (hy:Region.wanted oi (yielded ops a.tmps)=true/\∀w,S w->(execOp a.eval oi).run P w=.ok (.value v) w) (hS:S w)
  (h:AnyL P md ops Q S late fuel (listed.setIfInBounds i true) (a.put oi.dst v) w) (hQ:∀c a w,Q (.panic c) (a.put oi.dst v) w->Q (.panic c) a w:=by exact fun _ _ _ h=>h):AnyL P md ops Q S late (fuel+1) listed a w:=by
 simp only[Bool.and_eq_true] at hc;exact take hi hc.1 hc.2.1 hc.2.2.1 hc.2.2.2 hQ (Or.inl hy) hS h
theorem region {id:Nat}{l:List Oper}{a:Act}{w:World}(S:World->Prop)(late:Nat->Bool)(hm:P.follows .mixedOrders=true)
  (h:AnyL P .any l.toArray Q S late l.toArray.size (Array.replicate l.toArray.size false) a w.drew):(Code.region id l.toArray true).wp P Q a w:=
 wp_region_any hm (any_of _ _ _ _ h)
end
section
variable {P:Program} {ops:Array Oper} {Q:Exit->Act->World->Prop} {md:Region.Mode} {S:World->Prop} {late:Nat->Bool}
def reach (md:Region.Mode)(ops:Array Oper):Nat->Nat->Nat->Bool
 | 0,_,_=>false
 | n+1,j,i=>match ops[j]? with|some o=>o.after.any fun e=>Region.binds md e && (e.on == i || reach md ops n e.on i)|none=>false
def waitsC (md:Region.Mode)(ops:Array Oper)(late:Nat->Bool)(i:Nat):Bool:=(List.range ops.size).all fun j=>!late j || reach md ops 6 j i
def closed (md:Region.Mode)(ops:Array Oper)(listed:Array Bool):Bool:=
 (List.range ops.size).all fun k=>!listed.getD k false || (match ops[k]? with|some o=>o.after.all fun e=>!Region.binds md e || listed.getD e.on false|none=>true)
theorem closed_spec {listed:Array Bool}(h:closed md ops listed=true){k:Nat}{o:Oper}(ho:ops[k]?=some o)(hk:listed.getD k false=true):∀e ∈ o.after,Region.binds md e=true->listed.getD e.on false=true:=by
 have hlt:k<ops.size:=(Array.getElem?_eq_some_iff.1 ho).1;have:=List.all_eq_true.1 h k (List.mem_range.2 hlt);simp only[hk,ho,Bool.not_true,Bool.false_or] at this;intro e he hb;have h2:=Array.all_eq_true'.1 this e he;simpa [hb] using h2
theorem closed_of {listed:Array Bool}(h:∀k o,ops[k]?=some o->listed.getD k false=true->∀e ∈ o.after,Region.binds md e=true->listed.getD e.on false=true):closed md ops listed=true:=by
 refine List.all_eq_true.2 fun k hk=>?_;cases hl:listed.getD k false with
 | false=>simp
 | true=>
  simp only[Bool.not_true,Bool.false_or];have hlt:=List.mem_range.1 hk;have ho:ops[k]?=some ops[k]:=by simp[hlt]
  rw[ho];refine Array.all_eq_true'.2 fun e he=>?_;cases hb:Region.binds md e with
  | false=>rfl
  | true=>simpa using h k _ ho hl e he hb
theorem closed_set {listed:Array Bool}{j:Nat}(h:closed md ops listed=true)(hj:j ∈ Region.ready md ops listed):closed md ops (listed.setIfInBounds j true)=true:=by
 obtain⟨_,oj,hoj,hall⟩:=mem_ready.1 hj;refine closed_of fun k o ho hk e he hb=>?_;by_cases hkj:j=k
 ·subst hkj;rw[hoj] at ho;cases ho;exact getD_set_true (hall e he hb)
 ·rw[getD_set_ne false hkj] at hk;exact getD_set_true (closed_spec h ho hk e he hb)
theorem reach_not {listed:Array Bool}(h:closed md ops listed=true){i:Nat}(hi:listed.getD i false=false):∀(n j:Nat),reach md ops n j i=true->j ∉ Region.ready md ops listed/\listed.getD j false=false
 | 0,_,hr=>by cases hr
 | n+1,j,hr=>by
  unfold reach at hr;cases ho:ops[j]? with
  | none=>rw[ho] at hr;cases hr
  | some o=>
   rw[ho] at hr;obtain⟨e,he,hb⟩:=Array.any_eq_true'.1 hr;simp only[Bool.and_eq_true,Bool.or_eq_true,beq_iff_eq] at hb;have hun:listed.getD e.on false=false:=by
    rcases hb.2 with h1|h1
    ·rw[h1];exact hi
    ·exact(reach_not h hi n e.on h1).2
   refine⟨fun hmem=>?_,?_⟩
   ·obtain⟨_,o',ho',hall⟩:=mem_ready.1 hmem;rw[ho] at ho';cases ho';have:=hall e he hb.1;rw[hun] at this;cases this
   ·cases hl:listed.getD j false with
    | false=>rfl
    | true=>
     have:=closed_spec h ho hl e he hb.1;rw[hun] at this;cases this
theorem firstC {i:Nat}{oi:Oper}{v:Value}(hi:ops[i]?=some oi)(hsel:∀(j:Nat) (o:Oper) cs b,ops[j]?=some o->o.op≠.select cs b)
  (hQ:∀c a w,Q (.panic c) (a.put oi.dst v) w->Q (.panic c) a w) (hwait:waitsC md ops late i=true) :
  ∀(fuel:Nat) (listed:Array Bool) (a:Act) (w:World),closed md ops listed=true ->
   (∀j oj,ops[j]?=some oj->j≠i->listed.getD j true=false->(∀e ∈ oj.after,Region.binds md e=true->e.on≠i)->oi.apart ops oj=true) ->
   i ∈ Region.ready md ops listed->YieldsIf P ops S oi v a->S w ->
   AnyL P md ops Q S late fuel (listed.setIfInBounds i true) (a.put oi.dst v) w->AnyL P md ops Q S late (fuel+1) listed a w:=by
 intro fuel
 induction fuel with
 | zero=>
  intro listed a w _ _ hr hy hS H;refine⟨fun h=>(by rw[h] at hr;cases hr),fun j hj=>?_⟩;by_cases hji:j=i
  ·subst hji;exact hy.wpOp hi hS ⟨fun _=>hS,H⟩
  ·have h0:=ready_mono hj hji;rw[H.1] at h0;cases h0
 | succ fuel ih=>
  intro listed a w hcl hfree hr hy hS H;refine⟨fun h=>(by rw[h] at hr;cases hr),fun j hj=>?_⟩;by_cases hji:j=i
  ·subst hji;exact hy.wpOp hi hS ⟨fun _=>hS,H⟩
  ·have h1:=H.2 j (ready_mono hj hji);obtain⟨hjun,oj,hoj,hall⟩:=mem_ready.1 hj;have hiun:listed.getD i false=false:=by
    have g0:=(mem_ready.1 hr).1;rcases Nat.lt_or_ge i listed.size with g|g
    ·simp[g] at g0 ⊢;exact g0
    ·simp[Array.getElem?_eq_none g] at g0
   have hnot:∀e ∈ oj.after,Region.binds md e=true->e.on≠i:=fun e he hb heq=>by
    have g1:=hall e he hb;rw[heq,hiun] at g1;cases g1
   have hlate:late j=false:=by
    cases hl:late j with
    | false=>rfl
    | true=>
     have hlt:j<ops.size:=(Array.getElem?_eq_some_iff.1 hoj).1;have:=List.all_eq_true.1 hwait j (List.mem_range.2 hlt);simp only[hl,Bool.not_true,Bool.false_or] at this;exact absurd hj (reach_not hcl hiun 6 j this).1
   have h2:=wpOp_putIf hoj (hfree j oj hoj hji hjun hnot) (fun cs b=>hsel i oi cs b hi) (fun cs b=>hsel j oj cs b hoj) hQ hy h1;have hfree':∀k ok,ops[k]?=some ok->k≠i->(listed.setIfInBounds j true).getD k true=false ->
     (∀e ∈ ok.after,Region.binds md e=true->e.on≠i)->oi.apart ops ok=true:=fun k ok hk hki hun hno=>by
    refine hfree k ok hk hki ?_ hno;by_cases hjk:j=k
    ·subst hjk;exact hjun
    ·rw[getD_set_ne true hjk] at hun;exact hun
   refine wpOp_mono (fun a' w' h3=>⟨fun _=>h3.2.1 hlate,ih (listed.setIfInBounds j true) a' w' (closed_set hcl hj) hfree' (ready_mono hr (Ne.symm hji)) h3.1 (h3.2.1 hlate) ?_⟩) h2;rw[Array.setIfInBounds_comm _ _ hji];exact h3.2.2
theorem takeC {i:Nat}{oi:Oper}{v:Value}{fuel:Nat}{listed:Array Bool}{a:Act}{w:World}(hi:ops[i]?=some oi)
  (hs:Region.noSelect ops=true) (hf:Region.free md ops listed i=true) (hr:(Region.ready md ops listed).contains i=true) (hwait:(closed md ops listed && waitsC md ops late i)=true)
  (hQ:∀c a w,Q (.panic c) (a.put oi.dst v) w->Q (.panic c) a w) (hy:YieldsIf P ops S oi v a) (hS:S w)
  (h:AnyL P md ops Q S late fuel (listed.setIfInBounds i true) (a.put oi.dst v) w):AnyL P md ops Q S late (fuel+1) listed a w:=
 firstC hi (Region.noSelect_spec hs) hQ (Bool.and_eq_true_iff.1 hwait).2 fuel listed a w (Bool.and_eq_true_iff.1 hwait).1 (Region.free_spec hi hf) (by simpa using hr) hy hS h
theorem tkC {i:Nat}{oi:Oper}{v:Value}{fuel:Nat}{listed:Array Bool}{a:Act}{w:World}(hi:ops[i]?=some oi)
 (hc:(Region.noSelect ops && (Region.free md ops listed i && ((Region.ready md ops listed).contains i && (closed md ops listed && waitsC md ops late i))))=true)
 (hy:Region.wanted oi (yielded ops a.tmps)=true/\∀w,S w->(execOp a.eval oi).run P w=.ok (.value v) w) (hS:S w)
 (h:AnyL P md ops Q S late fuel (listed.setIfInBounds i true) (a.put oi.dst v) w) (hQ:∀c a w,Q (.panic c) (a.put oi.dst v) w->Q (.panic c) a w:=by exact fun _ _ _ h=>h):AnyL P md ops Q S late (fuel+1) listed a w:=by
 simp only[Bool.and_eq_true] at hc;exact takeC hi hc.1 hc.2.1 hc.2.2.1 (Bool.and_eq_true_iff.2 hc.2.2.2) hQ (Or.inl hy) hS h
theorem ta {i:Nat}{oi:Oper}{v:Value}{fuel:Nat}{listed:Array Bool}{a:Act}{w:World}(hy:∀w,S w->(execOp a.eval oi).run P w=.ok (.value v) w)(hS:S w)
 (h:AnyL P md ops Q S late fuel (listed.setIfInBounds i true) (a.put oi.dst v) w) (hi:ops[i]?=some oi:=by rfl)
 (hc:(Region.noSelect ops && (Region.free md ops listed i && ((Region.ready md ops listed).contains i && waits md ops late i)))=true:=by kernel_rfl) (hw:Region.wanted oi (yielded ops a.tmps)=true:=by kernel_rfl) (hQ:∀c a w,Q (.panic c) (a.put oi.dst v) w->Q (.panic c) a w:=by exact fun _ _ _ h=>h):AnyL P md ops Q S late (fuel+1) listed a w:=tk hi hc ⟨hw,hy⟩ hS h hQ
theorem tb {i:Nat}{oi:Oper}{v:Value}{fuel:Nat}{listed:Array Bool}{a:Act}{w:World}(hy:∀w,S w->(execOp a.eval oi).run P w=.ok (.value v) w)(hS:S w)
 (h:AnyL P md ops Q S late fuel (listed.setIfInBounds i true) (a.put oi.dst v) w) (hi:ops[i]?=some oi:=by rfl)
 (hc:(Region.noSelect ops && (Region.free md ops listed i && ((Region.ready md ops listed).contains i && (closed md ops listed && waitsC md ops late i))))=true:=by kernel_rfl) (hw:Region.wanted oi (yielded ops a.tmps)=true:=by kernel_rfl) (hQ:∀c a w,Q (.panic c) (a.put oi.dst v) w->Q (.panic c) a w:=by exact fun _ _ _ h=>h):AnyL P md ops Q S late (fuel+1) listed a w:=tkC hi hc ⟨hw,hy⟩ hS h hQ
theorem on {i:Nat}{o:Oper}{fuel:Nat}{listed:Array Bool}{a:Act}{w:World}
 (h:∀K:Act->World->Prop,(∀a' w',(late i=false->S w')->AnyL P md ops Q S late fuel (listed.setIfInBounds i true) a' w'->K a' w') ->
  if Region.wanted o (yielded ops a.tmps)=true then Oper.wp P o a w K Q else K (a.put o.dst undef) w) (hr:Region.ready md ops listed=[i]:=by kernel_rfl) (hi:ops[i]?=some o:=by rfl):AnyL P md ops Q S late (fuel+1) listed a w:=one hr hi h
end
end Go.Fld.Late
