import Derived.Test.YthocbeghnkacnaaGreatDoorT08
import Derived.BigQuiet
set_option linter.unusedVariables false
set_option linter.unusedSimpArgs false
set_option linter.unnecessarySimpa false
set_option maxRecDepth 100000
set_option maxHeartbeats 16000000
namespace Go.Fld.Mix
open Go Go.Fld.Late
section
variable {P:Program} {ops:Array Oper} {Q:Exit->Act->World->Prop} {md:Region.Mode} {C:World->Prop}
def AnyP (P:Program)(md:Region.Mode)(ops:Array Oper)(C:World->Prop)(Q:Exit->Act->World->Prop)(ph:List Nat)(ft:Nat):Nat->Array Bool->Act->Prop
 | 0,listed,a=>(∀j ∈ ph,listed.getD j true=true)/\∀w,C w->wpAny P md ops Q ft listed a w
 | n+1,listed,a=>Region.ready md ops listed≠[]/\∀i ∈ Region.ready md ops listed,i ∈ ph/\qOp P ops C i (AnyP P md ops C Q ph ft n (listed.setIfInBounds i true)) a
theorem any_of {ph:List Nat}{ft:Nat}:∀(n:Nat) (listed:Array Bool) (a:Act) (w:World),C w->AnyP P md ops C Q ph ft n listed a->wpAny P md ops Q (n+ft) listed a w
 | 0,_,_,w,hw,h=>by rw[Nat.zero_add];exact h.2 w hw
 | n+1,listed,a,w,hw,h=>by
  rw[show n+1+ft=(n+ft)+1 by omega];exact⟨fun h0=>absurd h0 h.1,fun i hi=>wpOp_of_qOp hw (fun a' w' hw'=>any_of n _ a' w' hw') (h.2 i hi).2⟩
inductive Picks (l:List Oper):List Nat->List Oper->Prop
 | nil:Picks l [] []
 | cons {i:Nat} {o:Oper} {is:List Nat} {r:List Oper}:l[i]?=some o->Picks l is r->Picks l (i :: is) (o :: r)
def setAll (listed:Array Bool)(is:List Nat):Array Bool:=is.foldl (fun L i=>L.setIfInBounds i true) listed
def stepsB (md:Region.Mode)(ops:Array Oper):Array Bool->List Nat->Bool
 | _,[]=>true
 | listed,i :: is=>(Region.ready md ops listed).contains i && Region.free md ops listed i && stepsB md ops (listed.setIfInBounds i true) is
theorem getD_setT {L:Array Bool}{i j:Nat}(h:L.getD j true=true):(L.setIfInBounds i true).getD j true=true:=by
 by_cases e:i=j
 ·subst e;by_cases hlt:i<L.size
  ·simp[hlt]
  ·simp[Array.getElem?_eq_none (show(L.setIfInBounds i true).size<=i by simpa using hlt)]
 ·rw[getD_set_ne true e];exact h
theorem getD_setAll:∀(is:List Nat) (listed:Array Bool) (j:Nat),listed.getD j true=true->(setAll listed is).getD j true=true
 | [],_,_,h=>h
 | i :: is,listed,j,h=>getD_setAll is _ j (getD_setT h)
theorem getD_setAll_mem:∀(is:List Nat) (listed:Array Bool) (j:Nat),j ∈ is->(setAll listed is).getD j true=true
 | i :: is,listed,j,h=>by
  rcases List.mem_cons.1 h with e|e
  ·subst e;refine getD_setAll is _ j ?_;by_cases hlt:j<listed.size
   ·simp[hlt]
   ·simp[Array.getElem?_eq_none (show(listed.setIfInBounds j true).size<=j by simpa using hlt)]
  ·exact getD_setAll_mem is _ j e
theorem alone {i:Nat}{l:List Oper}{o:Oper}{ft:Nat}{listed:Array Bool}{a:Act}{w:World}(hr:Region.ready md l.toArray listed=[i])(hi:l[i]?=some o)
  (hw:Region.wanted o (yielded l.toArray a.tmps)=true)
  (h:∀K:Act->World->Prop,(∀a' w',wpAny P md l.toArray Q ft (listed.setIfInBounds i true) a' w'->K a' w')->Oper.wp P o a w K Q):wpAny P md l.toArray Q (ft+1) listed a w:=by
 refine⟨fun h0=>(by rw[hr] at h0;cases h0),fun j hj=>?_⟩;rw[hr] at hj;obtain rfl:j=i:=by simpa using hj
 unfold wpOp;have hi':l.toArray[j]?=some o:=by simpa using hi
 simp only[hi'];rw[if_pos hw];exact .inl (h _ fun _ _ g=>g)
theorem done {ft:Nat}{listed:Array Bool}{a:Act}{w:World}(hr:Region.ready md ops listed=[])(h:Q .normal a w):wpAny P md ops Q ft listed a w:=by
 cases ft with
 | zero=>exact⟨hr,h⟩
 | succ n=>exact⟨fun _=>h,by rw[hr];simp⟩
theorem region {id:Nat}{l:List Oper}{a:Act}{w:World}(ft:Nat)(hm:P.follows .mixedOrders=true)(hn:l.length=ft)
  (h:wpAny P .any l.toArray Q ft (Array.replicate ft false) a w.drew):(Code.region id l.toArray true).wp P Q a w:=by
 subst hn;exact wp_region_any hm (by simpa using h)
end
end Go.Fld.Mix
namespace Go.Fld.Mix
open Go Go.Fld.Late
section
variable {P:Program} {ops:Array Oper} {Q:Exit->Act->World->Prop} {md:Region.Mode} {C:World->Prop}
def Blocks (md:Region.Mode)(ops:Array Oper)(i j:Nat):Prop:=∀listed:Array Bool,closed md ops listed=true->listed.getD i false=false->j ∉ Region.ready md ops listed/\listed.getD j false=false
def maskOf (md:Region.Mode)(ms:List Nat)(o:Oper):Nat:=o.after.toList.foldl (fun m e=>if Region.binds md e=true then(m ||| 2 ^ e.on) ||| ms.getD e.on 0 else m) 0
def masks (md:Region.Mode):List Oper->List Nat->List Nat
 | [],ms=>ms
 | o :: r,ms=>masks md r (ms ++ [maskOf md ms o])
theorem fold_bit {ms:List Nat}{i:Nat}:∀(l:List Edge) (m:Nat),(l.foldl (fun m e=>if Region.binds md e=true then(m ||| 2 ^ e.on) ||| ms.getD e.on 0 else m) m).testBit i=true->m.testBit i=true\/∃e ∈ l,Region.binds md e=true/\(e.on=i\/(ms.getD e.on 0).testBit i=true)
 | [],m,h=>.inl h
 | e :: l,m,h=>by
  rw[List.foldl_cons] at h;rcases fold_bit l _ h with h1|⟨e',he',hb⟩
  ·by_cases hb:Region.binds md e=true
   ·rw[if_pos hb] at h1;simp only[Nat.testBit_or,Bool.or_eq_true,Nat.testBit_two_pow,decide_eq_true_eq] at h1;rcases h1 with(h1|h1)|h1
    ·exact .inl h1
    ·exact .inr ⟨e,by simp,hb,.inl h1⟩
    ·exact .inr ⟨e,by simp,hb,.inr h1⟩
   ·rw[if_neg hb] at h1;exact .inl h1
  ·exact .inr ⟨e',List.mem_cons_of_mem _ he',hb⟩
theorem masks_spec:∀(r:List Oper) (ms:List Nat) (hr:∀k o,r[k]?=some o->ops[ms.length+k]?=some o),(∀j i,(ms.getD j 0).testBit i=true->Blocks md ops i j)->∀j i,((masks md r ms).getD j 0).testBit i=true->Blocks md ops i j
 | [],ms,_,h=>h
 | o :: r,ms,hr,h=>by
  refine masks_spec r (ms ++ [maskOf md ms o]) (fun k o' hk=>?_) (fun j i hb=>?_)
  ·have:=hr (k+1) o' (by simpa using hk)
   rwa [List.length_append,List.length_singleton,Nat.add_assoc,Nat.add_comm 1 k]
  ·by_cases hj:j<ms.length
   ·rw[List.getD_eq_getElem?_getD,List.getElem?_append_left hj,<-List.getD_eq_getElem?_getD] at hb;exact h j i hb
   ·by_cases hj2:j=ms.length
    ·subst hj2;rw[List.getD_eq_getElem?_getD,List.getElem?_append_right (Nat.le_refl _),Nat.sub_self] at hb;have hb:(maskOf md ms o).testBit i=true:=hb;have ho:=hr 0 o rfl;rw[Nat.add_zero] at ho;rcases fold_bit o.after.toList 0 hb with h0|⟨e,he,hbe,hei⟩
     ·rw[Nat.zero_testBit] at h0;cases h0
     ·intro listed hcl hi;have hon:listed.getD e.on false=false:=by
       rcases hei with h1|h1
       ·rw[h1];exact hi
       ·exact(h e.on i h1 listed hcl hi).2
      refine reach_not hcl hon 1 ms.length ?_;unfold reach;rw[ho];exact Array.any_eq_true'.2 ⟨e,by simpa using he,by simp[hbe]⟩
    ·exfalso
     rw[List.getD_eq_getElem?_getD,List.getElem?_eq_none (by simp;omega)] at hb;simp at hb
theorem first2 {ph:List Nat}{ft i:Nat}{oi:Oper}{v:Value}(hi:ops[i]?=some oi)(hph:i ∈ ph)(hsel:∀(j:Nat) (o:Oper) cs b,ops[j]?=some o->o.op≠.select cs b){L0:Array Bool}(hwait:∀j,j<ops.size->L0.getD j true=false->j ∉ ph->Blocks md ops i j) :
  ∀(n:Nat) (listed:Array Bool) (a:Act),(∀j,L0.getD j true=true->listed.getD j true=true)->closed md ops listed=true ->
   (∀j oj,ops[j]?=some oj->j≠i->listed.getD j true=false->(∀e ∈ oj.after,Region.binds md e=true->e.on≠i)->oi.apart ops oj=true) ->
   i ∈ Region.ready md ops listed->YieldsIn P ops C oi v a ->
   AnyP P md ops C Q ph ft n (listed.setIfInBounds i true) (a.put oi.dst v)->AnyP P md ops C Q ph ft (n+1) listed a:=by
 intro n
 induction n with
 | zero=>
  intro listed a hL hcl _ hr hy H;refine⟨fun h=>(by rw[h] at hr;cases hr),fun j hj=>?_⟩;by_cases hji:j=i
  ·subst hji;exact⟨hph,hy.qOp hi H⟩
  ·exfalso
   obtain⟨hjun,oj,hoj,hall⟩:=mem_ready.1 hj;have hlt:j<ops.size:=(Array.getElem?_eq_some_iff.1 hoj).1;by_cases hjp:j ∈ ph
   ·have:=H.1 j hjp;rw[getD_set_ne true (Ne.symm hji),hjun] at this;cases this
   ·have hiun:listed.getD i false=false:=by
     have g0:=(mem_ready.1 hr).1;rcases Nat.lt_or_ge i listed.size with g|g
     ·simp[g] at g0 ⊢;exact g0
     ·simp[Array.getElem?_eq_none g] at g0
    have h0:L0.getD j true=false:=by
     cases h:L0.getD j true with
     | false=>rfl
     | true=>rw[hL j h] at hjun;cases hjun
    exact absurd hj (hwait j hlt h0 hjp listed hcl hiun).1
 | succ n ih=>
  intro listed a hL hcl hfree hr hy H;refine⟨fun h=>(by rw[h] at hr;cases hr),fun j hj=>?_⟩;by_cases hji:j=i
  ·subst hji;exact⟨hph,hy.qOp hi H⟩
  ·obtain⟨hjp,h1⟩:=H.2 j (ready_mono hj hji);obtain⟨hjun,oj,hoj,hall⟩:=mem_ready.1 hj;have hnot:∀e ∈ oj.after,Region.binds md e=true->e.on≠i:=fun e he hb heq=>by
    have g1:=hall e he hb;have g0:=(mem_ready.1 hr).1;rw[heq] at g1;rcases Nat.lt_or_ge i listed.size with g|g
    ·simp[g] at g0 g1;rw[g0] at g1;cases g1
    ·simp[Array.getElem?_eq_none g] at g1
   have h2:=qOp_put hoj (hfree j oj hoj hji hjun hnot) (fun cs b=>hsel i oi cs b hi) (fun cs b=>hsel j oj cs b hoj) hy h1;have hfree':∀k ok,ops[k]?=some ok->k≠i->(listed.setIfInBounds j true).getD k true=false ->
     (∀e ∈ ok.after,Region.binds md e=true->e.on≠i)->oi.apart ops ok=true:=fun k ok hk hki hun hno=>by
    refine hfree k ok hk hki ?_ hno;by_cases hjk:j=k
    ·subst hjk;exact hjun
    ·rw[getD_set_ne true hjk] at hun;exact hun
   have hL':∀k,L0.getD k true=true->(listed.setIfInBounds j true).getD k true=true:=fun k hk=>by
    by_cases hjk:j=k
    ·subst hjk;rw[hL j hk] at hjun;cases hjun
    ·rw[getD_set_ne true hjk];exact hL k hk
   refine⟨hjp,qOp_mono (fun a' h3=>ih (listed.setIfInBounds j true) a' hL' (closed_set hcl hj) hfree' (ready_mono hr (Ne.symm hji)) h3.1 ?_) h2⟩;rw[Array.setIfInBounds_comm _ _ hji];exact h3.2
theorem lex2 {ph:List Nat}{ft:Nat}(hs:Region.noSelect ops=true){L0:Array Bool}(hw:∀i ∈ ph,∀j,j<ops.size->L0.getD j true=false->j ∉ ph->Blocks md ops i j){l:List Oper}(hl:l.toArray=ops) :
  ∀(is:List Nat) (bl:List Oper) (listed:Array Bool) (a:Act),Picks l is bl->(∀i ∈ is,i ∈ ph)->(∀j ∈ ph,(setAll listed is).getD j true=true)->(∀j,L0.getD j true=true->listed.getD j true=true)->closed md ops listed=true->stepsB md ops listed is=true ->
   wpQuiet P ops C (fun a'=>∀w',C w'->wpAny P md ops Q ft (setAll listed is) a' w') bl a->AnyP P md ops C Q ph ft is.length listed a
 | [],_,listed,a,.nil,_,hall,_,_,_,h=>⟨hall,h⟩
 | i :: is,_,listed,a,.cons (o:=o) (r:=r) ho hp,hin,hall,hL,hcl,hB,h=>by
  simp only[stepsB,Bool.and_eq_true] at hB;obtain⟨⟨hr,hf⟩,hB'⟩:=hB;have ho':ops[i]?=some o:=by rw[<-hl];simpa using ho
  have hst:qOp P ops C i (wpQuiet P ops C (fun a'=>∀w',C w'->wpAny P md ops Q ft (setAll listed (i :: is)) a' w') r) a:=by unfold qOp;simp only[ho'];exact h
  obtain⟨v,hy,hK⟩:=yieldsIn_of_qOp ho' hst;have hr':i ∈ Region.ready md ops listed:=by simpa using hr
  refine first2 ho' (hin i (by simp)) (Region.noSelect_spec hs) (hw i (hin i (by simp))) is.length listed a hL hcl (Region.free_spec ho' hf) hr' hy
   (lex2 hs hw hl is r _ _ hp (fun j hj=>hin j (by simp[hj])) hall (fun j hj=>getD_setT (hL j hj)) (closed_set hcl hr') hB' hK)
def bitsOf (ph:List Nat):Nat:=ph.foldl (fun m i=>m ||| 2 ^ i) 0
def waitB (listed:List Bool)(ph:List Nat)(b:Nat):List Nat->Nat->Bool
 | [],_=>true
 | m :: ms,j=>(listed.getD j true || ph.contains j || (m &&& b == b)) && waitB listed ph b ms (j+1)
theorem waitB_spec {listed:List Bool}{ph:List Nat}{b:Nat}:∀(ms:List Nat) (j0:Nat),waitB listed ph b ms j0=true->∀k m,ms[k]?=some m->listed.getD (j0+k) true=false->j0+k ∉ ph->m &&& b=b
 | m :: ms,j0,h,0,m',hm,hl,hp=>by
  unfold waitB at h;simp only[Bool.and_eq_true,Bool.or_eq_true,List.contains_iff_mem,beq_iff_eq] at h;obtain rfl:m=m':=by simpa using hm
  rw[Nat.add_zero] at hl hp;rcases h.1 with(h1|h1)|h1
  ·rw[hl] at h1;cases h1
  ·exact absurd h1 hp
  ·exact h1
 | m :: ms,j0,h,k+1,m',hm,hl,hp=>by
  unfold waitB at h;simp only[Bool.and_eq_true] at h;exact waitB_spec ms (j0+1) h.2 k m' (by simpa using hm) (by rw[Nat.add_assoc,Nat.add_comm 1 k];exact hl) (by rw[Nat.add_assoc,Nat.add_comm 1 k];exact hp)
theorem bits_mem {i:Nat}:∀(ph:List Nat) (m:Nat),(m.testBit i=true\/i ∈ ph)->(ph.foldl (fun m i=>m ||| 2 ^ i) m).testBit i=true
 | [],m,h=>by simpa using h
 | k :: ph,m,h=>by
  rw[List.foldl_cons];refine bits_mem ph _ ?_;rcases h with h|h
  ·exact .inl (by rw[Nat.testBit_or,h];rfl)
  ·rcases List.mem_cons.1 h with h|h
   ·subst h;exact .inl (by rw[Nat.testBit_or,Nat.testBit_two_pow];simp)
   ·exact .inr h
theorem masks_length:∀(r:List Oper) (ms:List Nat),(masks md r ms).length=ms.length+r.length
 | [],ms=>by simp[masks]
 | o :: r,ms=>by unfold masks;rw[masks_length r];simp;omega
def phaseC (md:Region.Mode)(l:List Oper)(listed:Array Bool)(ph:List Nat):Bool:=
 Region.noSelect l.toArray && closed md l.toArray listed && waitB listed.toList ph (bitsOf ph) (masks md l []) 0 && stepsB md l.toArray listed ph
theorem phase2 {l:List Oper}(ph:List Nat){bl:List Oper}(hp:Picks l ph bl){listed:Array Bool}{ft:Nat}(hB:phaseC md l listed ph=true){a:Act}{w:World}
  (h:wpQuiet P l.toArray (fun w'=>∃n,w'=w.drewN n) (fun a'=>∀w',(∃n,w'=w.drewN n)->wpAny P md l.toArray Q ft (setAll listed ph) a' w') bl a):wpAny P md l.toArray Q (ph.length+ft) listed a w:=by
 unfold phaseC at hB;simp only[Bool.and_eq_true] at hB;obtain⟨⟨⟨hs,hcl⟩,hw⟩,hst⟩:=hB;refine any_of ph.length listed a w ⟨0,rfl⟩ (lex2 hs (fun i hi j hj hl hjp=>?_) rfl ph bl listed a hp (fun _ h=>h) (fun j hj=>getD_setAll_mem ph listed j hj) (fun _ h=>h) hcl hst h);have hlen:(masks md l []).length=l.length:=by rw[masks_length];simp
 have hjl:j<(masks md l []).length:=by rw[hlen];simpa using hj
 have hm:=waitB_spec (masks md l []) 0 hw j _ (List.getElem?_eq_getElem hjl) (by rw[Nat.zero_add];simpa using hl) (by rwa [Nat.zero_add]);refine masks_spec l [] (fun k o hk=>by simpa using hk) (fun j i hb=>by simp at hb) j i ?_;rw[List.getD_eq_getElem?_getD,List.getElem?_eq_getElem hjl,Option.getD_some];have hbit:(bitsOf ph).testBit i=true:=bits_mem ph 0 (.inr hi);rw[<-hm,Nat.testBit_and,Bool.and_eq_true] at hbit;exact hbit.1
end
end Go.Fld.Mix
