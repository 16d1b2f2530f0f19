import Derived.Test.YtkhpgcbjmopkfaaGreatDoorT00
import Derived.OrdersHeld
import Derived.RegionTactic
import Derived.Deep.RegionWith
set_option linter.unusedVariables false
set_option linter.unusedSimpArgs false
set_option linter.unnecessarySimpa false
set_option maxRecDepth 100000
namespace Go.Fld.Late
open Go
section
variable {P : Program} {ops : Array Oper} {Q : Exit → Act → World → Prop} {md : Region.Mode} {S : World → Prop} {late : Nat → Bool}
def AnyL (P : Program) (md : Region.Mode) (ops : Array Oper) (Q : Exit → Act → World → Prop) (S : World → Prop) (late : Nat → Bool) : Nat → Array Bool → Act → World → Prop
 | 0, listed, a, w => Region.ready md ops listed = [] ∧ Q .normal a w
 | fuel + 1, listed, a, w =>
  (Region.ready md ops listed = [] → Q .normal a w) ∧
  ∀ i ∈ Region.ready md ops listed, wpOp P ops Q i (fun a' w' => (late i = false → S w') ∧ AnyL P md ops Q S late fuel (listed.setIfInBounds i true) a' w') a w
theorem any_of : ∀ (fuel : Nat) (listed : Array Bool) (a : Act) (w : World), AnyL P md ops Q S late fuel listed a w → wpAny P md ops Q fuel listed a w
 | 0, _, _, _, h => h
 | fuel + 1, _, _, _, h => ⟨h.1, fun i hi => wpOp_mono (fun a' w' h' => any_of fuel _ a' w' h'.2) (h.2 i hi)⟩
def waits (md : Region.Mode) (ops : Array Oper) (late : Nat → Bool) (i : Nat) : Bool :=
 (List.range ops.size).all fun j => !late j || (match ops[j]? with | some o => o.after.any fun e => Region.binds md e && e.on == i | none => true)
theorem waits_spec {i : Nat} (h : waits md ops late i = true) {j : Nat} {oj : Oper} (hj : ops[j]? = some oj) (hl : late j = true) : ∃ e ∈ oj.after, Region.binds md e = true ∧ e.on = i := by
 have hlt : j < ops.size := (Array.getElem?_eq_some_iff.1 hj).1
 have := List.all_eq_true.1 h j (List.mem_range.2 hlt)
 simp only [hl, hj, Bool.not_true, Bool.false_or] at this
 obtain ⟨e, he, hb⟩ := Array.any_eq_true'.1 this
 simp only [Bool.and_eq_true, beq_iff_eq] at hb
 exact ⟨e, he, hb.1, hb.2⟩
theorem first {i : Nat} {oi : Oper} {v : Value} (hi : ops[i]? = some oi) (hsel : ∀ (j : Nat) (o : Oper) cs b, ops[j]? = some o → o.op ≠ .select cs b)
  (hQ : ∀ c a w, Q (.panic c) (a.put oi.dst v) w → Q (.panic c) a w) (hwait : waits md ops late i = true) :
  ∀ (fuel : Nat) (listed : Array Bool) (a : Act) (w : World),
   (∀ j oj, ops[j]? = some oj → j ≠ i → listed.getD j true = false → (∀ e ∈ oj.after, Region.binds md e = true → e.on ≠ i) → oi.apart ops oj = true) →
   i ∈ Region.ready md ops listed → YieldsIf P ops S oi v a → S w →
   AnyL P md ops Q S late fuel (listed.setIfInBounds i true) (a.put oi.dst v) w → AnyL P md ops Q S late (fuel + 1) listed a w := by
 intro fuel
 induction fuel with
 | zero =>
  intro listed a w _ hr hy hS H
  refine ⟨fun h => (by rw [h] at hr; cases hr), fun j hj => ?_⟩
  by_cases hji : j = i
  ·subst hji; exact hy.wpOp hi hS ⟨fun _ => hS, H⟩
  ·have h0 := ready_mono hj hji
   rw [H.1] at h0
   cases h0
 | succ fuel ih =>
  intro listed a w hfree hr hy hS H
  refine ⟨fun h => (by rw [h] at hr; cases hr), fun j hj => ?_⟩
  by_cases hji : j = i
  ·subst hji; exact hy.wpOp hi hS ⟨fun _ => hS, H⟩
  ·have h1 := H.2 j (ready_mono hj hji)
   obtain ⟨hjun, oj, hoj, hall⟩ := mem_ready.1 hj
   have hnot : ∀ e ∈ oj.after, Region.binds md e = true → e.on ≠ i := fun e he hb heq => by
    have g1 := hall e he hb
    have g0 := (mem_ready.1 hr).1
    rw [heq] at g1
    rcases Nat.lt_or_ge i listed.size with g | g
    ·simp [g] at g0 g1; rw [g0] at g1; cases g1
    ·simp [Array.getElem?_eq_none g] at g1
   have hlate : late j = false := by
    cases hl : late j with
    | false => rfl
    | true =>
     obtain ⟨e, he, hb, heq⟩ := waits_spec hwait hoj hl
     exact absurd heq (hnot e he hb)
   have h2 := wpOp_putIf hoj (hfree j oj hoj hji hjun hnot) (fun cs b => hsel i oi cs b hi) (fun cs b => hsel j oj cs b hoj) hQ hy h1
   have hfree' : ∀ k ok, ops[k]? = some ok → k ≠ i → (listed.setIfInBounds j true).getD k true = false →
     (∀ e ∈ ok.after, Region.binds md e = true → e.on ≠ i) → oi.apart ops ok = true := fun k ok hk hki hun hno => by
    refine hfree k ok hk hki ?_ hno
    by_cases hjk : j = k
    ·subst hjk; exact hjun
    ·rw [getD_set_ne true hjk] at hun; exact hun
   refine wpOp_mono (fun a' w' h3 => ⟨fun _ => h3.2.1 hlate, ih (listed.setIfInBounds j true) a' w' hfree' (ready_mono hr (Ne.symm hji)) h3.1 (h3.2.1 hlate) ?_⟩) h2
   rw [Array.setIfInBounds_comm _ _ hji]
   exact h3.2.2
theorem take {i : Nat} {oi : Oper} {v : Value} {fuel : Nat} {listed : Array Bool} {a : Act} {w : World} (hi : ops[i]? = some oi)
  (hs : Region.noSelect ops = true) (hf : Region.free md ops listed i = true) (hr : (Region.ready md ops listed).contains i = true) (hwait : waits md ops late i = true)
  (hQ : ∀ c a w, Q (.panic c) (a.put oi.dst v) w → Q (.panic c) a w) (hy : YieldsIf P ops S oi v a) (hS : S w)
  (h : AnyL P md ops Q S late fuel (listed.setIfInBounds i true) (a.put oi.dst v) w) : AnyL P md ops Q S late (fuel + 1) listed a w :=
 first hi (Region.noSelect_spec hs) hQ hwait fuel listed a w (Region.free_spec hi hf) (by simpa using hr) hy hS h
theorem one {i : Nat} {o : Oper} {fuel : Nat} {listed : Array Bool} {a : Act} {w : World} (hr : Region.ready md ops listed = [i]) (hi : ops[i]? = some o)
  (h : ∀ K : Act → World → Prop, (∀ a' w', (late i = false → S w') → AnyL P md ops Q S late fuel (listed.setIfInBounds i true) a' w' → K a' w') →
   if Region.wanted o (yielded ops a.tmps) = true then Oper.wp P o a w K Q else K (a.put o.dst undef) w) : AnyL P md ops Q S late (fuel + 1) listed a w := by
 refine ⟨fun h0 => (by rw [hr] at h0; cases h0), fun j hj => ?_⟩
 rw [hr] at hj
 obtain rfl : j = i := by simpa using hj
 unfold wpOp
 simp only [hi]
 have h1 := h (fun a' w' => (late j = false → S w') ∧ AnyL P md ops Q S late fuel (listed.setIfInBounds j true) a' w') (fun a' w' g1 g2 => ⟨g1, g2⟩)
 split
 ·rename_i hw; rw [if_pos hw] at h1; exact .inl h1
 ·rename_i hw; rw [if_neg hw] at h1; exact h1
theorem done {listed : Array Bool} {a : Act} {w : World} (hr : Region.ready md ops listed = []) (h : Q .normal a w) : ∀ fuel, AnyL P md ops Q S late fuel listed a w
 | 0 => ⟨hr, h⟩
 | _ + 1 => ⟨fun _ => h, by rw [hr]; simp⟩
theorem tk {i : Nat} {oi : Oper} {v : Value} {fuel : Nat} {listed : Array Bool} {a : Act} {w : World} (hi : ops[i]? = some oi)
  (hc : (Region.noSelect ops && (Region.free md ops listed i && ((Region.ready md ops listed).contains i && waits md ops late i))) = true)
  (hy : Region.wanted oi (yielded ops a.tmps) = true ∧ ∀ w, S w → (execOp a.eval oi).run P w = .ok (.value v) w) (hS : S w)
  (h : AnyL P md ops Q S late fuel (listed.setIfInBounds i true) (a.put oi.dst v) w) (hQ : ∀ c a w, Q (.panic c) (a.put oi.dst v) w → Q (.panic c) a w := by exact fun _ _ _ h => h) : AnyL P md ops Q S late (fuel + 1) listed a w := by
 simp only [Bool.and_eq_true] at hc
 exact take hi hc.1 hc.2.1 hc.2.2.1 hc.2.2.2 hQ (Or.inl hy) hS h
theorem region {id : Nat} {l : List Oper} {a : Act} {w : World} (S : World → Prop) (late : Nat → Bool) (hm : P.follows .mixedOrders = true)
  (h : AnyL P .any l.toArray Q S late l.toArray.size (Array.replicate l.toArray.size false) a w.drew) : (Code.region id l.toArray true).wp P Q a w :=
 wp_region_any hm (any_of _ _ _ _ h)
end
section
variable {P : Program} {ops : Array Oper} {Q : Exit → Act → World → Prop} {md : Region.Mode} {S : World → Prop} {late : Nat → Bool}
def reach (md : Region.Mode) (ops : Array Oper) : Nat → Nat → Nat → Bool
 | 0, _, _ => false
 | n + 1, j, i => match ops[j]? with | some o => o.after.any fun e => Region.binds md e && (e.on == i || reach md ops n e.on i) | none => false
def closed (md : Region.Mode) (ops : Array Oper) (listed : Array Bool) : Bool :=
 (List.range ops.size).all fun k => !listed.getD k false || (match ops[k]? with | some o => o.after.all fun e => !Region.binds md e || listed.getD e.on false | none => true)
theorem closed_spec {listed : Array Bool} (h : closed md ops listed = true) {k : Nat} {o : Oper} (ho : ops[k]? = some o) (hk : listed.getD k false = true) : ∀ e ∈ o.after, Region.binds md e = true → listed.getD e.on false = true := by
 have hlt : k < ops.size := (Array.getElem?_eq_some_iff.1 ho).1
 have := List.all_eq_true.1 h k (List.mem_range.2 hlt)
 simp only [hk, ho, Bool.not_true, Bool.false_or] at this
 intro e he hb
 have h2 := Array.all_eq_true'.1 this e he
 simpa [hb] using h2
theorem closed_of {listed : Array Bool} (h : ∀ k o, ops[k]? = some o → listed.getD k false = true → ∀ e ∈ o.after, Region.binds md e = true → listed.getD e.on false = true) : closed md ops listed = true := by
 refine List.all_eq_true.2 fun k hk => ?_
 cases hl : listed.getD k false with
 | false => simp
 | true =>
  simp only [Bool.not_true, Bool.false_or]
  have hlt := List.mem_range.1 hk
  have ho : ops[k]? = some ops[k] := by simp [hlt]
  rw [ho]
  refine Array.all_eq_true'.2 fun e he => ?_
  cases hb : Region.binds md e with
  | false => rfl
  | true => simpa using h k _ ho hl e he hb
theorem closed_set {listed : Array Bool} {j : Nat} (h : closed md ops listed = true) (hj : j ∈ Region.ready md ops listed) : closed md ops (listed.setIfInBounds j true) = true := by
 obtain ⟨_, oj, hoj, hall⟩ := mem_ready.1 hj
 refine closed_of fun k o ho hk e he hb => ?_
 by_cases hkj : j = k
 ·subst hkj
  rw [hoj] at ho; cases ho
  exact getD_set_true (hall e he hb)
 ·rw [getD_set_ne false hkj] at hk
  exact getD_set_true (closed_spec h ho hk e he hb)
theorem reach_not {listed : Array Bool} (h : closed md ops listed = true) {i : Nat} (hi : listed.getD i false = false) : ∀ (n j : Nat), reach md ops n j i = true → j ∉ Region.ready md ops listed ∧ listed.getD j false = false
 | 0, _, hr => by cases hr
 | n + 1, j, hr => by
  unfold reach at hr
  cases ho : ops[j]? with
  | none => rw [ho] at hr; cases hr
  | some o =>
   rw [ho] at hr
   obtain ⟨e, he, hb⟩ := Array.any_eq_true'.1 hr
   simp only [Bool.and_eq_true, Bool.or_eq_true, beq_iff_eq] at hb
   have hun : listed.getD e.on false = false := by
    rcases hb.2 with h1 | h1
    ·rw [h1]; exact hi
    ·exact (reach_not h hi n e.on h1).2
   refine ⟨fun hmem => ?_, ?_⟩
   ·obtain ⟨_, o', ho', hall⟩ := mem_ready.1 hmem
    rw [ho] at ho'; cases ho'
    have := hall e he hb.1
    rw [hun] at this; cases this
   ·cases hl : listed.getD j false with
    | false => rfl
    | true =>
     have := closed_spec h ho hl e he hb.1
     rw [hun] at this; cases this
end
end Go.Fld.Late
namespace Go.Fld.Late
open Go
section
variable {P : Program} {ops : Array Oper} {Q : Exit → Act → World → Prop} {md : Region.Mode}
def undone (l : Array Bool) : Nat := (l.toList.filter fun b => !b).length
theorem undone_list : ∀ (l : List Bool) (i : Nat), l[i]? = some false → ((l.set i true).filter fun b => !b).length + 1 = (l.filter fun b => !b).length
 | [], i, h => by simp at h
 | b :: r, 0, h => by
  simp at h
  subst h
  simp
 | b :: r, i + 1, h => by
  have := undone_list r i (by simpa using h)
  rw [List.set_cons_succ, List.filter_cons, List.filter_cons]
  cases b
  ·simp only [Bool.not_false, if_true, List.length_cons]; omega
  ·simp only [Bool.not_true, if_false]; simpa using this
theorem undone_set {l : Array Bool} {i : Nat} (h : l.getD i true = false) : undone (l.setIfInBounds i true) + 1 = undone l := by
 have hi : l[i]? = some false := by
  rw [Array.getD_eq_getD_getElem?] at h
  cases e : l[i]? with
  | none => rw [e] at h; cases h
  | some b => rw [e] at h; simp at h; rw [h]
 unfold undone
 rw [Array.toList_setIfInBounds]
 exact undone_list _ _ (by rw [Array.getElem?_toList]; exact hi)
theorem set_getD {l : Array Bool} {i : Nat} (h : i < l.size) (k : Nat) : (l.setIfInBounds i true).getD k false = (decide (k = i) || l.getD k false) := by
 rw [Array.getD_eq_getD_getElem?, Array.getD_eq_getD_getElem?, Array.getElem?_setIfInBounds]
 by_cases e : i = k
 ·subst e; simp [h]
 ·have e' : ¬ k = i := fun x => e x.symm
  simp [e, e']
def elder (md : Region.Mode) (ops : Array Oper) : Bool := (List.range ops.size).all fun k => match ops[k]? with | some o => o.after.all fun e => !Region.binds md e || Nat.blt e.on k | none => true
theorem elder_spec (h : elder md ops = true) {k : Nat} {o : Oper} (ho : ops[k]? = some o) : ∀ e ∈ o.after, Region.binds md e = true → e.on < k := by
 have hlt : k < ops.size := (Array.getElem?_eq_some_iff.1 ho).1
 have := List.all_eq_true.1 h k (List.mem_range.2 hlt)
 simp only [ho] at this
 intro e he hb
 have h2 := Array.all_eq_true'.1 this e he
 rw [hb] at h2
 simpa using h2
theorem all_done (h : elder md ops = true) {listed : Array Bool} (hr : Region.ready md ops listed = []) (hsz : listed.size = ops.size) : ∀ k, k < ops.size → listed.getD k false = true := by
 intro k
 induction k using Nat.strongRecOn with
 | _ k ih =>
 intro hk
 cases hl : listed.getD k false with
 | true => rfl
 | false =>
  exfalso
  have ho : ops[k]? = some ops[k] := by simp [hk]
  have hmem : k ∈ Region.ready md ops listed := by
   refine mem_ready.2 ⟨?_, ops[k], ho, fun e he hb => ?_⟩
   ·rw [Array.getD_eq_getD_getElem?] at hl ⊢
    have : k < listed.size := by omega
    simp [this] at hl ⊢
    exact hl
   ·have := elder_spec h ho e he hb
    exact ih _ this (by omega)
  rw [hr] at hmem
  cases hmem
theorem inv {J : Array Bool → Act → World → Prop} (he : elder md ops = true)
  (hstep : ∀ (i : Nat) (o : Oper), ops[i]? = some o → ∀ (listed : Array Bool) (a : Act) (w : World), listed.size = ops.size → listed.getD i false = false → (∀ e ∈ o.after, Region.binds md e = true → listed.getD e.on false = true) → J listed a w →
   ∀ K : Act → World → Prop, (∀ a' w', J (listed.setIfInBounds i true) a' w' → K a' w') → if Region.wanted o (yielded ops a.tmps) = true then Oper.wp P o a w K Q else K (a.put o.dst undef) w)
  (hfin : ∀ (listed : Array Bool) (a : Act) (w : World), (∀ k, k < ops.size → listed.getD k false = true) → J listed a w → Q .normal a w) :
  ∀ (fuel : Nat) (listed : Array Bool) (a : Act) (w : World), listed.size = ops.size → undone listed ≤ fuel → J listed a w → wpAny P md ops Q fuel listed a w
 | 0, listed, a, w, hsz, hu, hJ => by
  have hr : Region.ready md ops listed = [] := by
   cases hc : Region.ready md ops listed with
   | nil => rfl
   | cons i r =>
    have hm : i ∈ Region.ready md ops listed := by rw [hc]; simp
    have := undone_set (mem_ready.1 hm).1
    omega
  exact ⟨hr, hfin _ _ _ (all_done he hr hsz) hJ⟩
 | fuel + 1, listed, a, w, hsz, hu, hJ => by
  refine ⟨fun hr => hfin _ _ _ (all_done he hr hsz) hJ, fun i hi => ?_⟩
  obtain ⟨h1, o, ho, h2⟩ := mem_ready.1 hi
  have h3 := undone_set h1
  have h4 : listed.getD i false = false := by
   have hlt : i < ops.size := (Array.getElem?_eq_some_iff.1 ho).1
   rw [Array.getD_eq_getD_getElem?] at h1 ⊢
   have : i < listed.size := by omega
   simp [this] at h1 ⊢
   exact h1
  have h5 := hstep i o ho listed a w hsz h4 h2 hJ (fun a' w' => wpAny P md ops Q fuel (listed.setIfInBounds i true) a' w') (fun a' w' hj => inv he hstep hfin fuel _ a' w' (by simpa using hsz) (by omega) hj)
  unfold wpOp
  simp only [ho]
  split
  ·rename_i hw; rw [if_pos hw] at h5; exact .inl h5
  ·rename_i hw; rw [if_neg hw] at h5; exact h5
theorem region_inv {id : Nat} {l : List Oper} {a : Act} {w : World} (J : (Nat → Bool) → Act → World → Prop) (hm : P.follows .mixedOrders = true) (he : elder .any l.toArray = true)
  (hstep : ∀ (i : Nat) (o : Oper), l.toArray[i]? = some o → ∀ (D : Nat → Bool) (a : Act) (w : World), D i = false → (∀ (k : Nat) (e : _), o.after[k]? = some e → Region.binds .any e = true → D e.on = true) → J D a w →
   ∀ K : Act → World → Prop, (∀ a' w', J (fun k => decide (k = i) || D k) a' w' → K a' w') → if Region.wanted o (yielded l.toArray a.tmps) = true then Oper.wp P o a w K Q else K (a.put o.dst undef) w)
  (hfin : ∀ (D : Nat → Bool) (a : Act) (w : World), (∀ k, k < l.toArray.size → D k = true) → J D a w → Q .normal a w)
  (h0 : J (fun _ => false) a w.drew) : (Code.region id l.toArray true).wp P Q a w := by
 refine wp_region_any hm (inv (J := fun listed a w => J (fun k => listed.getD k false) a w) he ?_ ?_ _ _ _ _ (by simp) ?_ ?_)
 ·intro i o ho listed a w hsz hl hd hJ K hK
  have hlt : i < l.toArray.size := (Array.getElem?_eq_some_iff.1 ho).1
  refine hstep i o ho (fun k => listed.getD k false) a w hl (fun k e hk hb => hd e (Array.mem_of_getElem? hk) hb) hJ K (fun a' w' hj => hK a' w' ?_)
  have : (fun k => (listed.setIfInBounds i true).getD k false) = fun k => decide (k = i) || listed.getD k false := funext fun k => set_getD (by omega) k
  rw [this]
  exact hj
 ·intro listed a w hall hJ
  exact hfin _ a w hall hJ
 ·unfold undone
  rw [Array.toList_replicate]
  refine Nat.le_trans (List.length_filter_le _ _) ?_
  simp
 ·have : (fun k => (Array.replicate l.toArray.size false).getD k false) = fun _ => false := funext fun k => by
   rw [Array.getD_eq_getD_getElem?, Array.getElem?_replicate]
   split <;> rfl
  rw [this]
  exact h0
end
end Go.Fld.Late
