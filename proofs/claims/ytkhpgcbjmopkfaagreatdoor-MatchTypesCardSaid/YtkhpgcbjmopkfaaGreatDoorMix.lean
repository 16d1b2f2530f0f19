import Derived.Test.YtkhpgcbjmopkfaaGreatDoorLate
import Derived.BigQuiet
set_option linter.unusedVariables false
/-!
  A region that draws its order, of reads and of effects: PHASES. A phase is a set of quiet operations for each of which all others that have not come up wait: one walk of the phase serves every order. Between two phases stands one operation that comes up alone.
-/
namespace Go.Fld.Mix
open Go Go.Fld.Late
section
variable {P : Program} {ops : Array Oper} {Q : Exit → Act → World → Prop} {md : Region.Mode} {C : World → Prop}

/-- The game of a phase: n of its operations have not come up. -/
def AnyP (P : Program) (md : Region.Mode) (ops : Array Oper) (C : World → Prop) (Q : Exit → Act → World → Prop) (ph : List Nat) (ft : Nat) : Nat → Array Bool → Act → Prop
  | 0, listed, a => (∀ j ∈ ph, listed.getD j true = true) ∧ ∀ w, C w → wpAny P md ops Q ft listed a w
  | n + 1, listed, a => Region.ready md ops listed ≠ [] ∧ ∀ i ∈ Region.ready md ops listed, i ∈ ph ∧ qOp P ops C i (AnyP P md ops C Q ph ft n (listed.setIfInBounds i true)) a

theorem any_of {ph : List Nat} {ft : Nat} : ∀ (n : Nat) (listed : Array Bool) (a : Act) (w : World), C w → AnyP P md ops C Q ph ft n listed a → wpAny P md ops Q (n + ft) listed a w
  | 0, _, _, w, hw, h => by rw [Nat.zero_add]; exact h.2 w hw
  | n + 1, listed, a, w, hw, h => by
    rw [show n + 1 + ft = (n + ft) + 1 by omega]
    exact ⟨fun h0 => absurd h0 h.1, fun i hi => wpOp_of_qOp hw (fun a' w' hw' => any_of n _ a' w' hw') (h.2 i hi).2⟩

/-- Do all operations outside the phase that have not come up wait for number i? -/
def phWaits (md : Region.Mode) (ops : Array Oper) (listed : Array Bool) (ph : List Nat) (i : Nat) : Bool := (List.range ops.size).all fun j => listed.getD j true || ph.contains j || reach md ops 12 j i

theorem first {ph : List Nat} {ft i : Nat} {oi : Oper} {v : Value} (hi : ops[i]? = some oi) (hph : i ∈ ph) (hsel : ∀ (j : Nat) (o : Oper) cs b, ops[j]? = some o → o.op ≠ .select cs b) {L0 : Array Bool} (hwait : phWaits md ops L0 ph i = true) :
    ∀ (n : Nat) (listed : Array Bool) (a : Act), (∀ j, L0.getD j true = true → listed.getD j true = true) → closed md ops listed = true →
      (∀ j oj, ops[j]? = some oj → j ≠ i → listed.getD j true = false → (∀ e ∈ oj.after, Region.binds md e = true → e.on ≠ i) → oi.apart ops oj = true) →
      i ∈ Region.ready md ops listed → YieldsIn P ops C oi v a →
      AnyP P md ops C Q ph ft n (listed.setIfInBounds i true) (a.put oi.dst v) → AnyP P md ops C Q ph ft (n + 1) listed a := by
  intro n
  induction n with
  | zero =>
    intro listed a hL hcl _ hr hy H
    refine ⟨fun h => (by rw [h] at hr; cases hr), fun j hj => ?_⟩
    by_cases hji : j = i
    · subst hji; exact ⟨hph, hy.qOp hi H⟩
    · exfalso
      obtain ⟨hjun, oj, hoj, hall⟩ := mem_ready.1 hj
      have hlt : j < ops.size := (Array.getElem?_eq_some_iff.1 hoj).1
      by_cases hjp : j ∈ ph
      · have := H.1 j hjp
        rw [getD_set_ne true (Ne.symm hji), hjun] at this
        cases this
      · have hiun : listed.getD i false = false := by
          have g0 := (mem_ready.1 hr).1
          rcases Nat.lt_or_ge i listed.size with g | g
          · simp [g] at g0 ⊢; exact g0
          · simp [Array.getElem?_eq_none g] at g0
        have hw := List.all_eq_true.1 hwait j (List.mem_range.2 hlt)
        have h0 : L0.getD j true = false := by
          cases h : L0.getD j true with
          | false => rfl
          | true => rw [hL j h] at hjun; cases hjun
        rw [h0] at hw
        have hc : ph.contains j = false := by
          cases h : ph.contains j with
          | false => rfl
          | true => exact absurd (List.contains_iff_mem.1 h) hjp
        rw [hc] at hw
        simp only [Bool.false_or] at hw
        exact absurd hj (reach_not hcl hiun 12 j hw).1
  | succ n ih =>
    intro listed a hL hcl hfree hr hy H
    refine ⟨fun h => (by rw [h] at hr; cases hr), fun j hj => ?_⟩
    by_cases hji : j = i
    · subst hji; exact ⟨hph, hy.qOp hi H⟩
    · obtain ⟨hjp, h1⟩ := H.2 j (ready_mono hj hji)
      obtain ⟨hjun, oj, hoj, hall⟩ := mem_ready.1 hj
      have hnot : ∀ e ∈ oj.after, Region.binds md e = true → e.on ≠ i := fun e he hb heq => by
        have g1 := hall e he hb
        have g0 := (mem_ready.1 hr).1
        rw [heq] at g1
        rcases Nat.lt_or_ge i listed.size with g | g
        · simp [g] at g0 g1; rw [g0] at g1; cases g1
        · simp [Array.getElem?_eq_none g] at g1
      have h2 := qOp_put hoj (hfree j oj hoj hji hjun hnot) (fun cs b => hsel i oi cs b hi) (fun cs b => hsel j oj cs b hoj) hy h1
      have hfree' : ∀ k ok, ops[k]? = some ok → k ≠ i → (listed.setIfInBounds j true).getD k true = false →
          (∀ e ∈ ok.after, Region.binds md e = true → e.on ≠ i) → oi.apart ops ok = true := fun k ok hk hki hun hno => by
        refine hfree k ok hk hki ?_ hno
        by_cases hjk : j = k
        · subst hjk; exact hjun
        · rw [getD_set_ne true hjk] at hun; exact hun
      have hL' : ∀ k, L0.getD k true = true → (listed.setIfInBounds j true).getD k true = true := fun k hk => by
        by_cases hjk : j = k
        · subst hjk
          rw [hL j hk] at hjun
          cases hjun
        · rw [getD_set_ne true hjk]; exact hL k hk
      refine ⟨hjp, qOp_mono (fun a' h3 => ih (listed.setIfInBounds j true) a' hL' (closed_set hcl hj) hfree' (ready_mono hr (Ne.symm hji)) h3.1 ?_) h2⟩
      rw [Array.setIfInBounds_comm _ _ hji]
      exact h3.2

/-- The operations of a phase, in its order. -/
inductive Picks (l : List Oper) : List Nat → List Oper → Prop
  | nil : Picks l [] []
  | cons {i : Nat} {o : Oper} {is : List Nat} {r : List Oper} : l[i]? = some o → Picks l is r → Picks l (i :: is) (o :: r)

def setAll (listed : Array Bool) (is : List Nat) : Array Bool := is.foldl (fun L i => L.setIfInBounds i true) listed

/-- What the kernel checks of a phase: each may come up when its turn is there, those that do not wait for it are apart. -/
def stepsB (md : Region.Mode) (ops : Array Oper) : Array Bool → List Nat → Bool
  | _, [] => true
  | listed, i :: is => (Region.ready md ops listed).contains i && Region.free md ops listed i && stepsB md ops (listed.setIfInBounds i true) is

def phaseB (md : Region.Mode) (ops : Array Oper) (listed : Array Bool) (ph : List Nat) : Bool :=
  Region.noSelect ops && closed md ops listed && (ph.all fun i => phWaits md ops listed ph i) && stepsB md ops listed ph

theorem getD_setT {L : Array Bool} {i j : Nat} (h : L.getD j true = true) : (L.setIfInBounds i true).getD j true = true := by
  by_cases e : i = j
  · subst e
    by_cases hlt : i < L.size
    · simp [hlt]
    · simp [Array.getElem?_eq_none (show (L.setIfInBounds i true).size ≤ i by simpa using hlt)]
  · rw [getD_set_ne true e]; exact h
theorem getD_setAll : ∀ (is : List Nat) (listed : Array Bool) (j : Nat), listed.getD j true = true → (setAll listed is).getD j true = true
  | [], _, _, h => h
  | i :: is, listed, j, h => getD_setAll is _ j (getD_setT h)
theorem getD_setAll_mem : ∀ (is : List Nat) (listed : Array Bool) (j : Nat), j ∈ is → (setAll listed is).getD j true = true
  | i :: is, listed, j, h => by
    rcases List.mem_cons.1 h with e | e
    · subst e
      refine getD_setAll is _ j ?_
      by_cases hlt : j < listed.size
      · simp [hlt]
      · simp [Array.getElem?_eq_none (show (listed.setIfInBounds j true).size ≤ j by simpa using hlt)]
    · exact getD_setAll_mem is _ j e

theorem lex {ph : List Nat} {ft : Nat} (hs : Region.noSelect ops = true) {L0 : Array Bool} (hw : ∀ i ∈ ph, phWaits md ops L0 ph i = true) {l : List Oper} (hl : l.toArray = ops) :
    ∀ (is : List Nat) (bl : List Oper) (listed : Array Bool) (a : Act), Picks l is bl → (∀ i ∈ is, i ∈ ph) → (∀ j ∈ ph, (setAll listed is).getD j true = true) → (∀ j, L0.getD j true = true → listed.getD j true = true) → closed md ops listed = true → stepsB md ops listed is = true →
      wpQuiet P ops C (fun a' => ∀ w', C w' → wpAny P md ops Q ft (setAll listed is) a' w') bl a → AnyP P md ops C Q ph ft is.length listed a
  | [], _, listed, a, .nil, _, hall, _, _, _, h => ⟨hall, h⟩
  | i :: is, _, listed, a, .cons (o := o) (r := r) ho hp, hin, hall, hL, hcl, hB, h => by
    simp only [stepsB, Bool.and_eq_true] at hB
    obtain ⟨⟨hr, hf⟩, hB'⟩ := hB
    have ho' : ops[i]? = some o := by rw [← hl]; simpa using ho
    have hst : qOp P ops C i (wpQuiet P ops C (fun a' => ∀ w', C w' → wpAny P md ops Q ft (setAll listed (i :: is)) a' w') r) a := by unfold qOp; simp only [ho']; exact h
    obtain ⟨v, hy, hK⟩ := yieldsIn_of_qOp ho' hst
    have hr' : i ∈ Region.ready md ops listed := by simpa using hr
    refine first ho' (hin i (by simp)) (Region.noSelect_spec hs) (hw i (hin i (by simp))) is.length listed a hL hcl (Region.free_spec ho' hf) hr' hy
      (lex hs hw hl is r _ _ hp (fun j hj => hin j (by simp [hj])) hall (fun j hj => getD_setT (hL j hj)) (closed_set hcl hr') hB' hK)

/-- A PHASE. -/
theorem phase {l : List Oper} (ph : List Nat) {bl : List Oper} (hp : Picks l ph bl) {listed : Array Bool} {ft : Nat} (hB : phaseB md l.toArray listed ph = true) {a : Act} {w : World}
    (h : wpQuiet P l.toArray (fun w' => ∃ n, w' = w.drewN n) (fun a' => ∀ w', (∃ n, w' = w.drewN n) → wpAny P md l.toArray Q ft (setAll listed ph) a' w') bl a) : wpAny P md l.toArray Q (ph.length + ft) listed a w := by
  unfold phaseB at hB
  simp only [Bool.and_eq_true] at hB
  obtain ⟨⟨⟨hs, hcl⟩, hw⟩, hst⟩ := hB
  exact any_of ph.length listed a w ⟨0, rfl⟩ (lex hs (fun i hi => List.all_eq_true.1 hw i hi) rfl ph bl listed a hp (fun _ h => h) (fun j hj => getD_setAll_mem ph listed j hj) (fun _ h => h) hcl hst h)

/-- One operation that comes up alone. -/
theorem alone {i : Nat} {l : List Oper} {o : Oper} {ft : Nat} {listed : Array Bool} {a : Act} {w : World} (hr : Region.ready md l.toArray listed = [i]) (hi : l[i]? = some o)
    (hw : Region.wanted o (yielded l.toArray a.tmps) = true)
    (h : ∀ K : Act → World → Prop, (∀ a' w', wpAny P md l.toArray Q ft (listed.setIfInBounds i true) a' w' → K a' w') → Oper.wp P o a w K Q) : wpAny P md l.toArray Q (ft + 1) listed a w := by
  refine ⟨fun h0 => (by rw [hr] at h0; cases h0), fun j hj => ?_⟩
  rw [hr] at hj
  obtain rfl : j = i := by simpa using hj
  unfold wpOp
  have hi' : l.toArray[j]? = some o := by simpa using hi
  simp only [hi']
  rw [if_pos hw]
  exact .inl (h _ fun _ _ g => g)

/-- .. that is passed over. -/
theorem passed {i : Nat} {l : List Oper} {o : Oper} {ft : Nat} {listed : Array Bool} {a : Act} {w : World} (hr : Region.ready md l.toArray listed = [i]) (hi : l[i]? = some o)
    (hw : Region.wanted o (yielded l.toArray a.tmps) = false)
    (h : wpAny P md l.toArray Q ft (listed.setIfInBounds i true) (a.put o.dst undef) w) : wpAny P md l.toArray Q (ft + 1) listed a w := by
  refine ⟨fun h0 => (by rw [hr] at h0; cases h0), fun j hj => ?_⟩
  rw [hr] at hj
  obtain rfl : j = i := by simpa using hj
  unfold wpOp
  have hi' : l.toArray[j]? = some o := by simpa using hi
  simp only [hi']
  rw [if_neg (by rw [hw]; exact Bool.false_ne_true)]
  exact h

theorem done {ft : Nat} {listed : Array Bool} {a : Act} {w : World} (hr : Region.ready md ops listed = []) (h : Q .normal a w) : wpAny P md ops Q ft listed a w := by
  cases ft with
  | zero => exact ⟨hr, h⟩
  | succ n => exact ⟨fun _ => h, by rw [hr]; simp⟩

/-- THE BEGINNING. -/
theorem region {id : Nat} {l : List Oper} {a : Act} {w : World} (ft : Nat) (hm : P.follows .mixedOrders = true) (hn : l.length = ft)
    (h : wpAny P .any l.toArray Q ft (Array.replicate ft false) a w.drew) : (Code.region id l.toArray true).wp P Q a w := by
  subst hn
  exact wp_region_any hm (by simpa using h)

end
end Go.Fld.Mix
