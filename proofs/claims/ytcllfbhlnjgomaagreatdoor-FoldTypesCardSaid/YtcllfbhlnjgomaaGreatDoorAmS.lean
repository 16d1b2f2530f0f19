import Derived.Test.YtcllfbhlnjgomaaGreatDoorAmR
set_option linter.unusedVariables false
set_option linter.unusedSimpArgs false
/-!
  THE ABSTRACT MACHINE, part S: plans for a region whose order is drawn.
-/
namespace Go.Am
open Go Go.RowKit

/-- A plan: 'one': this operation may go first; 'alt': it is one of those that may come next (the others follow in the last field, down to 'stop'); 'dp': every order, set by set. -/
inductive Sch where
  | done
  | stop
  | one (i : Nat) (k : Sch)
  | alt (i : Nat) (k r : Sch)
  | dp (ks : List Nat)

abbrev Pend := List (Nat × Oper)

def hasP (j : Nat) : Pend → Bool
  | [] => false
  | (i, _) :: r => if Nat.beq i j then true else hasP j r
def findP (j : Nat) : Pend → Option Oper
  | [] => none
  | (i, o) :: r => if Nat.beq i j then some o else findP j r
def dropP (j : Nat) : Pend → Pend
  | [] => []
  | (i, o) :: r => if Nat.beq i j then dropP j r else (i, o) :: dropP j r
def mkPend : Nat → List Oper → Pend
  | _, [] => []
  | i, o :: r => (i, o) :: mkPend (i + 1) r

def readyEs (n : Nat) (pend : Pend) : List Edge → Bool
  | [] => true
  | e :: r => if Region.binds .any e then (if Nat.blt e.on n then (if hasP e.on pend then false else readyEs n pend r) else false) else readyEs n pend r
def readyB (n : Nat) (pend : Pend) (o : Oper) : Bool := readyEs n pend o.after.toList

/-- Does it wait for one of those? -/
def waitsFor (D : List Nat) : List Edge → Bool
  | [] => false
  | e :: r => if Region.binds .any e then (if D.contains e.on then true else waitsFor D r) else waitsFor D r

/-- May the operation i go first? D: i itself, and what comes behind it. -/
def freeP (cm : Oper → Bool) (ops : Array Oper) (i : Nat) (oi : Oper) : List Nat → Pend → Bool
  | _, [] => true
  | D, (j, oj) :: r => if Nat.beq j i then freeP cm ops i oi D r else
      if waitsFor D oj.after.toList then freeP cm ops i oi (j :: D) r else
      if letsB cm oi oj then (if oi.apart ops oj then freeP cm ops i oi D r else false) else false

def noneReady (n : Nat) (all : Pend) (seen : List Nat) : Pend → Bool
  | [] => true
  | (j, o) :: r => if readyB n all o then (if seen.contains j then noneReady n all seen r else false) else noneReady n all seen r

def pickFirst (cm : Oper → Bool) (ops : Array Oper) (n : Nat) (all : Pend) : Pend → Option Nat
  | [] => none
  | (i, o) :: r => if firstB cm o then (if readyB n all o then (if freeP cm ops i o [i] all then some i else pickFirst cm ops n all r) else pickFirst cm ops n all r) else pickFirst cm ops n all r
def readies (n : Nat) (all : Pend) : Pend → List Nat
  | [] => []
  | (i, o) :: r => if readyB n all o then i :: readies n all r else readies n all r
def eqKeys : List Nat → Pend → Bool
  | [], y => match y with
    | [] => true
    | _ => false
  | k :: r, y => match y with
    | (i, _) :: q => if Nat.beq k i then eqKeys r q else false
    | [] => false
def pendOf (ops : List Oper) : List Nat → Pend
  | [] => []
  | k :: r => match ops[k]? with
    | some o => (k, o) :: pendOf ops r
    | none => pendOf ops r

/-- Is the plan good? -/
def chk (cm : Oper → Bool) (ops : Array Oper) (n : Nat) : Sch → Pend → List Nat → Bool
  | .done, pend, seen => match seen with
    | [] => noneReady n pend [] pend
    | _ => false
  | .stop, pend, seen => match seen with
    | [] => false
    | _ => noneReady n pend seen pend
  | .one i k, pend, seen => match seen with
    | [] => match findP i pend with
      | some o => if readyB n pend o then (if firstB cm o then (if freeP cm ops i o [i] pend then chk cm ops n k (dropP i pend) [] else false) else false) else false
      | none => false
    | _ => false
  | .alt i k r, pend, seen => match findP i pend with
    | some o => if readyB n pend o then (if chk cm ops n k (dropP i pend) [] then chk cm ops n r pend (i :: seen) else false) else false
    | none => false
  | .dp ks, pend, seen => match seen with
    | [] => eqKeys ks pend
    | _ => false

def eqDf : List ADef → List ADef → Bool
  | [], y => match y with
    | [] => true
    | _ => false
  | .mark i :: r, y => match y with
    | .mark j :: q => if Nat.beq i j then eqDf r q else false
    | _ => false
  | .call f as :: r, y => match y with
    | .call f' bs :: q => if Nat.beq f f' then (if eqAll as bs then eqDf r q else false) else false
    | _ => false
theorem eqDf_eq : ∀ {a b : List ADef}, eqDf a b = true → a = b
  | [], b, h => by
    simp only [eqDf] at h
    split at h
    · rfl
    · cases h
  | .mark i :: r, b, h => by
    simp only [eqDf] at h
    split at h
    · split at h
      · rename_i e; rw [Nat.eq_of_beq_eq_true e, eqDf_eq h]
      · cases h
    · cases h
  | .call f as :: r, b, h => by
    simp only [eqDf] at h
    split at h
    · split at h
      · rename_i e
        split at h
        · rename_i e2; rw [Nat.eq_of_beq_eq_true e, eqAll_eq e2, eqDf_eq h]
        · cases h
      · cases h
    · cases h

def eqAct (A B : AAct) : Bool := if Nat.beq A.n B.n then (if eqDf A.df B.df then eqT A.tm B.tm else false) else false
theorem eqAct_eq {A B : AAct} (h : eqAct A B = true) : A = B := by
  unfold eqAct at h
  split at h
  · rename_i e
    split at h
    · rename_i e1
      have h1 := Nat.eq_of_beq_eq_true e
      have h2 := eqT_eq h
      have h3 := eqDf_eq e1
      cases A; cases B
      simp only at h1 h2 h3
      rw [h1, h2, h3]
    · cases h
  · cases h

def isStop : Sch → Bool
  | .stop => true
  | _ => false
theorem isStop_eq {p : Sch} (h : isStop p = true) : p = .stop := by cases p <;> first | rfl | cases h

/-! ### Every order, set by set -/
abbrev Front := List (Pend × AAct × St)
def samePend : Pend → Pend → Bool
  | [], y => match y with
    | [] => true
    | _ => false
  | (k, _) :: r, y => match y with
    | (i, _) :: q => if Nat.beq k i then samePend r q else false
    | [] => false
def addF (p : Pend) (A : AAct) (s : St) : Front → Option Front
  | [] => some [(p, A, s)]
  | (q, A', s') :: r => if samePend p q then (if likeS s s' then (if eqAct A A' then some ((q, A', s') :: r) else none) else none)
      else match addF p A s r with
        | some l => some ((q, A', s') :: l)
        | none => none
def stepE (cm : Oper → Bool) (E : Env) (R : Rec) (B : Nat) (ops : List Oper) (p : Pend) (A : AAct) (s : St) : List Nat → Front → Option Front
  | [], acc => some acc
  | i :: r, acc => match findP i p with
    | some o => match stepD cm E R ops (B + i) o A s with
      | some (A', s') => match addF (dropP i p) A' s' acc with
        | some acc' => stepE cm E R B ops p A s r acc'
        | none => none
      | none => none
    | none => none
def nextsOf (cm : Oper → Bool) (ops : Array Oper) (n : Nat) (p : Pend) : List Nat :=
  match pickFirst cm ops n p p with
  | some i => [i]
  | none => readies n p p
def expandF (cm : Oper → Bool) (E : Env) (R : Rec) (B : Nat) (ops : Array Oper) : Front → Front → Option Front
  | [], acc => some acc
  | (p, A, s) :: r, acc => match nextsOf cm ops ops.size p with
    | [] => none
    | i :: l => match stepE cm E R B ops.toList p A s (i :: l) acc with
      | some acc' => expandF cm E R B ops r acc'
      | none => none
def dpRun (cm : Oper → Bool) (E : Env) (R : Rec) (B : Nat) (ops : Array Oper) : Nat → Front → Option (AAct × St)
  | 0, f => match f with
    | [(p, A, s)] => match p with
      | [] => some (A, s)
      | _ => none
    | _ => none
  | k + 1, f => match expandF cm E R B ops f [] with
    | some f' => dpRun cm E R B ops k f'
    | none => none

/-- A plan carried out. -/
def runS (cm : Oper → Bool) (E : Env) (R : Rec) (B : Nat) (ops : List Oper) : Sch → AAct → St → Option (AAct × St)
  | .done, A, s => some (A, s)
  | .stop, A, s => none
  | .one i k, A, s => match ops[i]? with
    | some o => match stepD cm E R ops (B + i) o A s with
      | some (A', s') => runS cm E R B ops k A' s'
      | none => none
    | none => none
  | .alt i k r, A, s => match ops[i]? with
    | some o => match stepD cm E R ops (B + i) o A s with
      | some (A', s') => match runS cm E R B ops k A' s' with
        | some (A1, s1) => if isStop r then some (A1, s1) else
          match runS cm E R B ops r A s with
          | some (A2, s2) => if eqS s1 s2 then (if eqAct A1 A2 then some (A1, s1) else none) else none
          | none => none
        | none => none
      | none => none
    | none => none
  | .dp ks, A, s => dpRun cm E R B ops.toArray ks.length [(pendOf ops ks, A, s)]

structure PInv (ops : Array Oper) (L : Array Bool) (pend : Pend) : Prop where
  size : L.size = ops.size
  mem : ∀ i o, (i, o) ∈ pend ↔ ops[i]? = some o ∧ L[i]? = some false

theorem findP_mem {j : Nat} {o : Oper} : ∀ {l : Pend}, findP j l = some o → (j, o) ∈ l
  | [], h => by cases h
  | (i, x) :: r, h => by
    simp only [findP] at h
    split at h
    · rename_i e; cases h; rw [Nat.eq_of_beq_eq_true e]; exact List.mem_cons_self ..
    · exact List.mem_cons_of_mem _ (findP_mem h)
theorem hasP_iff {j : Nat} : ∀ {l : Pend}, hasP j l = true ↔ ∃ o, (j, o) ∈ l
  | [] => by simp [hasP]
  | (i, x) :: r => by
    simp only [hasP]
    split
    · rename_i e
      have := Nat.eq_of_beq_eq_true e
      subst this
      exact ⟨fun _ => ⟨x, List.mem_cons_self ..⟩, fun _ => rfl⟩
    · rename_i e
      rw [hasP_iff]
      refine ⟨fun ⟨o, h⟩ => ⟨o, List.mem_cons_of_mem _ h⟩, fun ⟨o, h⟩ => ?_⟩
      rcases List.mem_cons.1 h with h | h
      · cases h; exact absurd (Nat.beq_refl j) e
      · exact ⟨o, h⟩
theorem dropP_mem {j : Nat} {i : Nat} {o : Oper} : ∀ {l : Pend}, (i, o) ∈ dropP j l ↔ i ≠ j ∧ (i, o) ∈ l
  | [] => by simp [dropP]
  | (k, x) :: r => by
    simp only [dropP]
    split
    · rename_i e
      have := Nat.eq_of_beq_eq_true e
      subst this
      rw [dropP_mem]
      refine ⟨fun ⟨h1, h2⟩ => ⟨h1, List.mem_cons_of_mem _ h2⟩, fun ⟨h1, h2⟩ => ⟨h1, ?_⟩⟩
      rcases List.mem_cons.1 h2 with h2 | h2
      · cases h2; exact absurd rfl h1
      · exact h2
    · rename_i e
      rw [List.mem_cons, dropP_mem, List.mem_cons]
      refine ⟨fun h => ?_, fun ⟨h1, h2⟩ => ?_⟩
      · rcases h with h | ⟨h1, h2⟩
        · cases h; exact ⟨fun e2 => e (by rw [e2]; exact Nat.beq_refl j), .inl rfl⟩
        · exact ⟨h1, .inr h2⟩
      · rcases h2 with h2 | h2
        · exact .inl h2
        · exact .inr ⟨h1, h2⟩
theorem dropP_length {j : Nat} : ∀ {l : Pend}, (dropP j l).length ≤ l.length
  | [] => Nat.le_refl _
  | (k, x) :: r => by
    simp only [dropP]
    split
    · have := dropP_length (j := j) (l := r); simp only [List.length_cons]; omega
    · have := dropP_length (j := j) (l := r); simp only [List.length_cons]; omega
theorem dropP_lt {j : Nat} {o : Oper} : ∀ {l : Pend}, findP j l = some o → (dropP j l).length < l.length
  | [], h => by cases h
  | (k, x) :: r, h => by
    simp only [findP] at h
    simp only [dropP]
    split at h
    · rename_i e
      rw [if_pos e]
      have := dropP_length (j := j) (l := r); simp only [List.length_cons]; omega
    · rename_i e
      rw [if_neg e]
      have := dropP_lt h; simp only [List.length_cons]; omega

theorem readyEs_iff {n : Nat} {pend : Pend} : ∀ {l : List Edge}, readyEs n pend l = true ↔ ∀ e ∈ l, Region.binds .any e = true → e.on < n ∧ hasP e.on pend = false
  | [] => by simp [readyEs]
  | e :: r => by
    simp only [readyEs, List.forall_mem_cons]
    by_cases hb : Region.binds .any e = true
    · simp only [hb, if_true]
      by_cases hn : Nat.blt e.on n = true
      · simp only [hn, if_true]
        by_cases hh : hasP e.on pend = true
        · simp only [hh, if_true]
          constructor
          · intro h; cases h
          · intro h; exact absurd (h.1 trivial).2 (by simp)
        · have hh' : hasP e.on pend = false := by simpa using hh
          simp only [hh', Bool.false_eq_true, if_false]
          rw [readyEs_iff]
          exact ⟨fun h => ⟨fun _ => ⟨blt_lt hn, by simp⟩, h⟩, fun h => h.2⟩
      · simp only [hn, if_false, Bool.false_eq_true]
        constructor
        · intro h; cases h
        · intro h
          have := (h.1 trivial).1
          exact absurd (by rw [Nat.blt_eq]; exact this) hn
    · simp only [hb, if_false, Bool.false_eq_true]
      rw [readyEs_iff]
      exact ⟨fun h => ⟨fun h2 => absurd h2 (by simp), h⟩, fun h => h.2⟩

theorem mem_ready_iff {ops : Array Oper} {L : Array Bool} {pend : Pend} (hp : PInv ops L pend) {i : Nat} : i ∈ Region.ready .any ops L ↔ ∃ o, (i, o) ∈ pend ∧ readyB ops.size pend o = true := by
  rw [mem_ready]
  have hL : ∀ {k : Nat}, k < ops.size → (L.getD k true = false ↔ L[k]? = some false) := fun {k} hk => by
    have : k < L.size := by rw [hp.size]; exact hk
    simp [Array.getD, this]
  constructor
  · rintro ⟨h1, o, ho, hall⟩
    have hi : i < ops.size := (Array.getElem?_eq_some_iff.1 ho).1
    refine ⟨o, (hp.mem i o).2 ⟨ho, (hL hi).1 h1⟩, readyEs_iff.2 (fun e he hb => ?_)⟩
    have h2 := hall e (by simpa using he) hb
    have hlt : e.on < ops.size := by
      rcases Nat.lt_or_ge e.on L.size with h | h
      · rw [← hp.size]; exact h
      · simp [Array.getD, Nat.not_lt.2 h] at h2
    refine ⟨hlt, ?_⟩
    rw [← Bool.not_eq_true, hasP_iff]
    rintro ⟨oe, hm⟩
    have := ((hp.mem _ _).1 hm).2
    have hlt' : e.on < L.size := by rw [hp.size]; exact hlt
    simp [Array.getD, hlt'] at h2 this
    rw [h2] at this
    cases this
  · rintro ⟨o, hm, hr⟩
    obtain ⟨ho, h1⟩ := (hp.mem i o).1 hm
    have hi : i < ops.size := (Array.getElem?_eq_some_iff.1 ho).1
    refine ⟨(hL hi).2 h1, o, ho, fun e he hb => ?_⟩
    obtain ⟨hlt, hh⟩ := readyEs_iff.1 hr e (by simpa using he) hb
    have hlt' : e.on < L.size := by rw [hp.size]; exact hlt
    by_cases hv : L[e.on] = true
    · simp [Array.getD, hlt', hv]
    · have hv' : L[e.on] = false := by simpa using hv
      have : hasP e.on pend = true := hasP_iff.2 ⟨ops[e.on], (hp.mem _ _).2 ⟨by simp [hlt], by simp [hlt', hv']⟩⟩
      rw [hh] at this
      cases this

theorem PInv.drop {ops : Array Oper} {L : Array Bool} {pend : Pend} (hp : PInv ops L pend) (i : Nat) : PInv ops (L.setIfInBounds i true) (dropP i pend) := by
  refine ⟨by rw [Array.size_setIfInBounds]; exact hp.size, fun k o => ?_⟩
  rw [dropP_mem, hp.mem, Array.getElem?_setIfInBounds]
  by_cases e : i = k
  · subst e
    simp
  · have e' : k ≠ i := fun h => e h.symm
    simp [e, e']

theorem waitsFor_iff {D : List Nat} : ∀ {l : List Edge}, waitsFor D l = true → ∃ e ∈ l, Region.binds .any e = true ∧ e.on ∈ D
  | [], h => by cases h
  | e :: r, h => by
    simp only [waitsFor] at h
    split at h
    · rename_i hb
      split at h
      · rename_i he; exact ⟨e, List.mem_cons_self .., hb, by simpa using he⟩
      · obtain ⟨x, h1, h2⟩ := waitsFor_iff h; exact ⟨x, List.mem_cons_of_mem _ h1, h2⟩
    · obtain ⟨x, h1, h2⟩ := waitsFor_iff h; exact ⟨x, List.mem_cons_of_mem _ h1, h2⟩

/-- What 'freeP' finds: the operations behind i, and that every other one lets i go first. -/
theorem freeP_spec {cm : Oper → Bool} {ops : Array Oper} {i : Nat} {oi : Oper} : ∀ {l : Pend} {D : List Nat}, freeP cm ops i oi D l = true → (∀ j o, (j, o) ∈ l → ops[j]? = some o) →
    ∃ D' : Nat → Prop, (∀ j, D' j → j ∈ D ∨ ∃ o, (j, o) ∈ l) ∧ (∀ j, j ∈ D → D' j) ∧ (∀ j, j ≠ i → D' j → j ∉ D → ∃ o, ops[j]? = some o ∧ ∃ e ∈ o.after, Region.binds .any e = true ∧ D' e.on) ∧ (i ∉ D → ¬ D' i) ∧
      ∀ j oj, (j, oj) ∈ l → j ≠ i → ¬ D' j → oi.apart ops oj = true ∧ letsB cm oi oj = true
  | [], D, h, _ => ⟨fun j => j ∈ D, fun j hj => .inl hj, fun j hj => hj, fun j _ h1 h2 => absurd h1 h2, fun h => h, fun j oj hm => by cases hm⟩
  | (k, x) :: r, D, h, hops => by
    simp only [freeP] at h
    have hops' : ∀ j o, (j, o) ∈ r → ops[j]? = some o := fun j o hm => hops j o (List.mem_cons_of_mem _ hm)
    split at h
    · rename_i e
      have e := Nat.eq_of_beq_eq_true e
      obtain ⟨D', h1, h2, h3, h4, h5⟩ := freeP_spec h hops'
      refine ⟨D', fun j hj => ?_, h2, h3, h4, fun j oj hm hne hno => ?_⟩
      · rcases h1 j hj with h | ⟨o, h⟩
        · exact .inl h
        · exact .inr ⟨o, List.mem_cons_of_mem _ h⟩
      · rcases List.mem_cons.1 hm with hm | hm
        · cases hm; exact absurd e hne
        · exact h5 j oj hm hne hno
    · rename_i hki
      have hki : k ≠ i := fun e => hki (by rw [e]; exact Nat.beq_refl i)
      split at h
      · rename_i hw
        obtain ⟨e, he, hb, hon⟩ := waitsFor_iff hw
        obtain ⟨D', h1, h2, h3, h4, h5⟩ := freeP_spec h hops'
        refine ⟨D', fun j hj => ?_, fun j hj => h2 j (List.mem_cons_of_mem _ hj), fun j hne hj hnj => ?_, fun hi => h4 (by simp [hi, Ne.symm hki]), fun j oj hm hne hno => ?_⟩
        · rcases h1 j hj with h | ⟨o, h⟩
          · rcases List.mem_cons.1 h with h | h
            · subst h; exact .inr ⟨x, List.mem_cons_self ..⟩
            · exact .inl h
          · exact .inr ⟨o, List.mem_cons_of_mem _ h⟩
        · by_cases ejk : j = k
          · subst ejk
            exact ⟨x, hops j x (List.mem_cons_self ..), e, by simpa using he, hb, h2 _ (List.mem_cons_of_mem _ hon)⟩
          · exact h3 j hne hj (by simp [ejk, hnj])
        · rcases List.mem_cons.1 hm with hm | hm
          · cases hm; exact absurd (h2 k (List.mem_cons_self ..)) hno
          · exact h5 j oj hm hne hno
      · split at h
        · rename_i hl
          split at h
          · rename_i ha
            obtain ⟨D', h1, h2, h3, h4, h5⟩ := freeP_spec h hops'
            refine ⟨D', fun j hj => ?_, h2, h3, h4, fun j oj hm hne hno => ?_⟩
            · rcases h1 j hj with h | ⟨o, h⟩
              · exact .inl h
              · exact .inr ⟨o, List.mem_cons_of_mem _ h⟩
            · rcases List.mem_cons.1 hm with hm | hm
              · cases hm; exact ⟨ha, hl⟩
              · exact h5 j oj hm hne hno
          · cases h
        · cases h

theorem noneReady_spec {n : Nat} {all : Pend} {seen : List Nat} : ∀ {l : Pend}, noneReady n all seen l = true → ∀ j o, (j, o) ∈ l → readyB n all o = true → j ∈ seen
  | [], _, j, o, hm, _ => by cases hm
  | (k, x) :: r, h, j, o, hm, hr => by
    simp only [noneReady] at h
    rcases List.mem_cons.1 hm with hm' | hm'
    · cases hm'
      rw [if_pos hr] at h
      split at h
      · rename_i hc; simpa using hc
      · cases h
    · have hr' : noneReady n all seen r = true := by
        split at h
        · split at h
          · exact h
          · cases h
        · exact h
      exact noneReady_spec hr' j o hm' hr

theorem ops_get {ops : Array Oper} {i : Nat} {o : Oper} (h : ops.toList[i]? = some o) : ops[i]? = some o := by simpa using h

def WfP (ops : Array Oper) (p : Pend) : Prop := ∀ j o, (j, o) ∈ p → ops[j]? = some o
theorem PInv.wf {ops : Array Oper} {L : Array Bool} {p : Pend} (h : PInv ops L p) : WfP ops p := fun j o hm => ((h.mem j o).1 hm).1
theorem WfP.drop {ops : Array Oper} {p : Pend} (h : WfP ops p) (i : Nat) : WfP ops (dropP i p) := fun j o hm => h j o (dropP_mem.1 hm).2

theorem samePend_eq {ops : Array Oper} : ∀ {p q : Pend}, samePend p q = true → WfP ops p → WfP ops q → p = q
  | [], q, h, _, _ => by
    simp only [samePend] at h
    split at h
    · rfl
    · cases h
  | (k, o) :: r, q, h, hp, hq => by
    simp only [samePend] at h
    split at h
    · rename_i i o' q'
      split at h
      · rename_i e
        have e := Nat.eq_of_beq_eq_true e
        subst e
        have h1 := hp k o (List.mem_cons_self ..)
        have h2 := hq k o' (List.mem_cons_self ..)
        rw [h1] at h2
        cases h2
        rw [samePend_eq h (fun j x hm => hp j x (List.mem_cons_of_mem _ hm)) (fun j x hm => hq j x (List.mem_cons_of_mem _ hm))]
      · cases h
    · cases h

theorem eqKeys_eq {ops : Array Oper} : ∀ {ks : List Nat} {p : Pend}, eqKeys ks p = true → WfP ops p → pendOf ops.toList ks = p ∧ ks.length = p.length
  | [], p, h, _ => by
    simp only [eqKeys] at h
    split at h
    · exact ⟨rfl, rfl⟩
    · cases h
  | k :: r, p, h, hp => by
    simp only [eqKeys] at h
    split at h
    · rename_i i o q
      split at h
      · rename_i e
        have e := Nat.eq_of_beq_eq_true e
        subst e
        have h1 := hp k o (List.mem_cons_self ..)
        obtain ⟨h2, h3⟩ := eqKeys_eq h (fun j x hm => hp j x (List.mem_cons_of_mem _ hm))
        have h4 : ops.toList[k]? = some o := by simpa using h1
        exact ⟨by simp only [pendOf, h4, h2], by simp [h3]⟩
      · cases h
    · cases h

theorem pickFirst_spec {cm : Oper → Bool} {ops : Array Oper} {n : Nat} {all : Pend} {i : Nat} : ∀ {l : Pend}, pickFirst cm ops n all l = some i → ∃ o, (i, o) ∈ l ∧ firstB cm o = true ∧ readyB n all o = true ∧ freeP cm ops i o [i] all = true
  | [], h => by cases h
  | (k, x) :: r, h => by
    simp only [pickFirst] at h
    have ih : pickFirst cm ops n all r = some i → ∃ o, (i, o) ∈ (k, x) :: r ∧ firstB cm o = true ∧ readyB n all o = true ∧ freeP cm ops i o [i] all = true := fun h => by
      obtain ⟨o, h1, h2⟩ := pickFirst_spec h
      exact ⟨o, List.mem_cons_of_mem _ h1, h2⟩
    split at h
    · rename_i h1
      split at h
      · rename_i h2
        split at h
        · rename_i h3
          cases h
          exact ⟨x, List.mem_cons_self .., h1, h2, h3⟩
        · exact ih h
      · exact ih h
    · exact ih h

theorem readies_spec {n : Nat} {all : Pend} {i : Nat} : ∀ {l : Pend}, i ∈ readies n all l ↔ ∃ o, (i, o) ∈ l ∧ readyB n all o = true
  | [] => by simp [readies]
  | (k, x) :: r => by
    simp only [readies]
    split
    · rename_i h
      rw [List.mem_cons, readies_spec]
      constructor
      · rintro (rfl | ⟨o, h1, h2⟩)
        · exact ⟨x, List.mem_cons_self .., h⟩
        · exact ⟨o, List.mem_cons_of_mem _ h1, h2⟩
      · rintro ⟨o, h1, h2⟩
        rcases List.mem_cons.1 h1 with e | h1
        · cases e; exact .inl rfl
        · exact .inr ⟨o, h1, h2⟩
    · rename_i h
      rw [readies_spec]
      constructor
      · rintro ⟨o, h1, h2⟩
        exact ⟨o, List.mem_cons_of_mem _ h1, h2⟩
      · rintro ⟨o, h1, h2⟩
        rcases List.mem_cons.1 h1 with e | h1
        · cases e; exact absurd h2 h
        · exact ⟨o, h1, h2⟩

/-- The operation that may go first. -/
theorem anyOk_one {cm : Oper → Bool} {E : Env} {R : Rec} {B : Nat} {ops : Array Oper} {out : AAct × St} {pend : Pend} {L : Array Bool} {i n : Nat} {o : Oper} {A A' : AAct} {s s' : St} (hp : PInv ops L pend) (hN : A.n ≤ 65536)
    (hm : (i, o) ∈ pend) (hf : firstB cm o = true) (hrd : readyB ops.size pend o = true) (hfree : freeP cm ops i o [i] pend = true) (hs : stepD cm E R ops.toList (B + i) o A s = some (A', s')) (H : AnyOk cm E R B ops out n (L.setIfInBounds i true) A' s') :
    AnyOk cm E R B ops out (n + 1) L A s := by
  have hoi := ((hp.mem i o).1 hm).1
  have hss : s' = s := by
    unfold stepD at hs
    split at hs
    · obtain ⟨r, hv, _⟩ := putR_some hs; exact valD_first hf hv
    · obtain ⟨r, hv, _⟩ := putR_some hs; cases hv; rfl
    · cases hs
  subst hss
  have hfr := freeP_spec hfree (fun j o hm => ((hp.mem j o).1 hm).1)
  obtain ⟨D', d1, d2, d3, _, d5⟩ := hfr
  have hpd : ∀ {j : Nat} {oj : Oper}, (j, oj) ∈ pend → L.getD j true = false := fun {j oj} hm => by
    have hl := ((hp.mem j oj).1 hm).2
    have hj' : j < L.size := (Array.getElem?_eq_some_iff.1 hl).1
    simp [Array.getD, hj'] at hl ⊢; exact hl
  refine anyOk_first (D := fun j => D' j ∧ j ≠ i) hoi hf (fun h => h.2 rfl) n L A A' s' hN ((mem_ready_iff hp).2 ⟨o, hm, hrd⟩) ⟨fun j hj => ?_, fun j oj hj hoj => ?_⟩ (fun j oj hj hne hun hno => ?_) hs H
  · rcases d1 j hj.1 with h | ⟨oj, h⟩
    · simp at h; exact absurd h hj.2
    · exact hpd h
  · obtain ⟨o2, ho2, e, he, hb, hon⟩ := d3 j hj.2 hj.1 (by simp; exact hj.2)
    rw [hoj] at ho2
    cases ho2
    refine ⟨e, he, hb, ?_⟩
    by_cases ei : e.on = i
    · exact .inl ei
    · exact .inr ⟨hon, ei⟩
  · have hj' : j < L.size := by rw [hp.size]; exact (Array.getElem?_eq_some_iff.1 hj).1
    have hpend : (j, oj) ∈ pend := (hp.mem j oj).2 ⟨hj, by simp [Array.getD, hj'] at hun ⊢; exact hun⟩
    exact d5 j oj hpend hne (fun h => hno ⟨h, hne⟩)

def FrontOk (ops : Array Oper) (s0 : St) (f : Front) : Prop := ∀ x ∈ f, WfP ops x.1 ∧ x.2.1.n ≤ 65536 ∧ Stat s0 x.2.2
theorem addF_spec {ops : Array Oper} {p : Pend} {A : AAct} {s0 s : St} (hp : WfP ops p) (hN : A.n ≤ 65536) (hs : Stat s0 s) : ∀ {acc acc' : Front}, addF p A s acc = some acc' → FrontOk ops s0 acc → FrontOk ops s0 acc' ∧ (∀ x ∈ acc, x ∈ acc') ∧ (p, A, s) ∈ acc'
  | [], acc', h, hacc => by
    simp only [addF, Option.some.injEq] at h
    subst h
    exact ⟨fun x hx => by simp at hx; subst hx; exact ⟨hp, hN, hs⟩, (fun x hx => by cases hx), by simp⟩
  | (q, A', s') :: r, acc', h, hacc => by
    simp only [addF] at h
    split at h
    · rename_i e1
      split at h
      · rename_i e2
        split at h
        · rename_i e3
          cases h
          have e1 := samePend_eq e1 hp (hacc _ (List.mem_cons_self ..)).1
          have e2 := likeS_eq e2 hs (hacc _ (List.mem_cons_self ..)).2.2
          have e3 := eqAct_eq e3
          subst e1 e2 e3
          exact ⟨hacc, fun x hx => hx, List.mem_cons_self ..⟩
        · cases h
      · cases h
    · split at h
      · rename_i l hl
        cases h
        obtain ⟨h1, h2, h3⟩ := addF_spec hp hN hs hl (fun x hx => hacc x (List.mem_cons_of_mem _ hx))
        refine ⟨fun x hx => ?_, fun x hx => ?_, List.mem_cons_of_mem _ h3⟩
        · rcases List.mem_cons.1 hx with rfl | hx
          · exact hacc _ (List.mem_cons_self ..)
          · exact h1 x hx
        · rcases List.mem_cons.1 hx with rfl | hx
          · exact List.mem_cons_self ..
          · exact List.mem_cons_of_mem _ (h2 x hx)
      · cases h

theorem stepE_spec {cm : Oper → Bool} {E : Env} {R : Rec} (hR : RecOk E R) {B : Nat} {ops : Array Oper} {p : Pend} {A : AAct} {s0 s : St} (hp : WfP ops p) (hN : A.n ≤ 65536) (hst : Stat s0 s) : ∀ {l : List Nat} {acc acc' : Front}, stepE cm E R B ops.toList p A s l acc = some acc' → FrontOk ops s0 acc →
    FrontOk ops s0 acc' ∧ (∀ x ∈ acc, x ∈ acc') ∧ ∀ i ∈ l, ∃ o A' s', (i, o) ∈ p ∧ stepD cm E R ops.toList (B + i) o A s = some (A', s') ∧ (dropP i p, A', s') ∈ acc'
  | [], acc, acc', h, hacc => by
    simp only [stepE, Option.some.injEq] at h
    subst h
    exact ⟨hacc, fun x hx => hx, fun i hi => by cases hi⟩
  | i :: r, acc, acc', h, hacc => by
    simp only [stepE] at h
    split at h
    · rename_i o ho
      split at h
      · rename_i A' s' hs
        split at h
        · rename_i acc1 h1
          obtain ⟨k1, k2, k3⟩ := addF_spec (hp.drop i) (by rw [stepD_n hs]; exact hN) (hst.trans (stepD_stat hR hs)) h1 hacc
          obtain ⟨j1, j2, j3⟩ := stepE_spec hR hp hN hst h k1
          refine ⟨j1, fun x hx => j2 x (k2 x hx), fun k hk => ?_⟩
          rcases List.mem_cons.1 hk with rfl | hk
          · exact ⟨o, A', s', findP_mem ho, hs, j2 _ k3⟩
          · exact j3 k hk
        · cases h
      · cases h
    · cases h

theorem expandF_spec {cm : Oper → Bool} {E : Env} {R : Rec} (hR : RecOk E R) {B : Nat} {ops : Array Oper} {s0 : St} : ∀ {f acc f' : Front}, expandF cm E R B ops f acc = some f' → FrontOk ops s0 f → FrontOk ops s0 acc →
    FrontOk ops s0 f' ∧ (∀ x ∈ acc, x ∈ f') ∧ ∀ x ∈ f, nextsOf cm ops ops.size x.1 ≠ [] ∧ ∀ i ∈ nextsOf cm ops ops.size x.1, ∃ o A' s', (i, o) ∈ x.1 ∧ stepD cm E R ops.toList (B + i) o x.2.1 x.2.2 = some (A', s') ∧ (dropP i x.1, A', s') ∈ f'
  | [], acc, f', h, hf, hacc => by
    simp only [expandF, Option.some.injEq] at h
    subst h
    exact ⟨hacc, fun x hx => hx, fun x hx => by cases hx⟩
  | (p, A, s) :: r, acc, f', h, hf, hacc => by
    simp only [expandF] at h
    split at h
    · cases h
    · rename_i i l hl
      split at h
      · rename_i acc1 h1
        obtain ⟨hp, hN, hst⟩ := hf _ (List.mem_cons_self ..)
        obtain ⟨k1, k2, k3⟩ := stepE_spec hR hp hN hst h1 hacc
        obtain ⟨j1, j2, j3⟩ := expandF_spec hR h (fun x hx => hf x (List.mem_cons_of_mem _ hx)) k1
        refine ⟨j1, fun x hx => j2 x (k2 x hx), fun x hx => ?_⟩
        rcases List.mem_cons.1 hx with rfl | hx
        · refine ⟨by rw [hl]; simp, fun k hk => ?_⟩
          rw [hl] at hk
          obtain ⟨o, A', s', q1, q2, q3⟩ := k3 k hk
          exact ⟨o, A', s', q1, q2, j2 _ q3⟩
        · exact j3 x hx
      · cases h

theorem dp_sound {cm : Oper → Bool} {E : Env} {R : Rec} (hR : RecOk E R) {B : Nat} {ops : Array Oper} {s0 : St} {out : AAct × St} : ∀ (k : Nat) (f : Front), dpRun cm E R B ops k f = some out → FrontOk ops s0 f → ∀ x ∈ f, ∀ L, PInv ops L x.1 → AnyOk cm E R B ops out k L x.2.1 x.2.2
  | 0, f, h, hf, x, hx, L, hp => by
    simp only [dpRun] at h
    split at h
    · split at h
      · cases h
        simp at hx
        subst hx
        refine ⟨List.eq_nil_iff_forall_not_mem.2 (fun i hi => ?_), rfl⟩
        obtain ⟨o, hm, _⟩ := (mem_ready_iff hp).1 hi
        cases hm
      · cases h
    · cases h
  | k + 1, f, h, hf, x, hx, L, hp => by
    simp only [dpRun] at h
    split at h
    · rename_i f' hf'
      obtain ⟨h1, _, h3⟩ := expandF_spec hR hf' hf (fun x hx => by cases hx)
      obtain ⟨hne, hall⟩ := h3 x hx
      have ih := dp_sound hR k f' h h1
      cases hpk : pickFirst cm ops ops.size x.1 x.1 with
      | some i =>
        have e : nextsOf cm ops ops.size x.1 = [i] := by unfold nextsOf; rw [hpk]
        rw [e] at hall
        obtain ⟨o, A', s', q1, q2, q3⟩ := hall i (by simp)
        obtain ⟨o', r1, r2, r3, r4⟩ := pickFirst_spec hpk
        have : o' = o := by
          have a1 := ((hp.mem i o').1 r1).1
          have a2 := ((hp.mem i o).1 q1).1
          rw [a1] at a2
          cases a2
          rfl
        subst this
        exact anyOk_one hp (hf x hx).2.1 q1 r2 r3 r4 q2 (ih _ q3 _ (hp.drop i))
      | none =>
        have e : nextsOf cm ops ops.size x.1 = readies ops.size x.1 x.1 := by unfold nextsOf; rw [hpk]
        rw [e] at hall hne
        refine ⟨fun hr => ?_, fun i hi => ?_⟩
        · exfalso
          obtain ⟨i, hi⟩ := List.exists_mem_of_ne_nil _ hne
          have : i ∈ Region.ready .any ops L := (mem_ready_iff hp).2 (readies_spec.1 hi)
          rw [hr] at this
          cases this
        · obtain ⟨o, A', s', q1, q2, q3⟩ := hall i (readies_spec.2 ((mem_ready_iff hp).1 hi))
          exact ⟨o, A', s', ((hp.mem i o).1 q1).1, q2, ih _ q3 _ (hp.drop i)⟩
    · cases h

theorem anyOk_succ {cm : Oper → Bool} {E : Env} {R : Rec} {B : Nat} {ops : Array Oper} {out : AAct × St} : ∀ (n : Nat) {L : Array Bool} {A : AAct} {s : St}, AnyOk cm E R B ops out n L A s → AnyOk cm E R B ops out (n + 1) L A s
  | 0, L, A, s, h => ⟨fun _ => h.2, fun i hi => by rw [h.1] at hi; cases hi⟩
  | n + 1, L, A, s, h => ⟨h.1, fun i hi => by
      obtain ⟨o, A', s', h1, h2, h3⟩ := h.2 i hi
      exact ⟨o, A', s', h1, h2, anyOk_succ n h3⟩⟩
theorem anyOk_mono {cm : Oper → Bool} {E : Env} {R : Rec} {B : Nat} {ops : Array Oper} {out : AAct × St} {k n : Nat} (hkn : k ≤ n) {L : Array Bool} {A : AAct} {s : St} (h : AnyOk cm E R B ops out k L A s) : AnyOk cm E R B ops out n L A s := by
  induction hkn with
  | refl => exact h
  | step _ ih => exact anyOk_succ _ ih

/-- A good plan, carried out, stands for every order. -/
theorem plan_sound {cm : Oper → Bool} {E : Env} {R : Rec} (hR : RecOk E R) {B : Nat} {ops : Array Oper} {out : AAct × St} : ∀ (p : Sch) (pend : Pend) (seen : List Nat) (L : Array Bool) (n : Nat) (A : AAct) (s : St),
    chk cm ops ops.size p pend seen = true → PInv ops L pend → A.n ≤ 65536 → runS cm E R B ops.toList p A s = some out →
      (seen = [] → pend.length ≤ n → AnyOk cm E R B ops out n L A s) ∧
      (seen ≠ [] → pend.length ≤ n + 1 → ∀ i ∈ Region.ready .any ops L, i ∉ seen → ∃ o A' s', ops[i]? = some o ∧ stepD cm E R ops.toList (B + i) o A s = some (A', s') ∧ AnyOk cm E R B ops out n (L.setIfInBounds i true) A' s') := by
  intro p
  induction p with
  | done =>
    intro pend seen L n A s hc hp hN hr
    simp only [chk] at hc
    split at hc
    · cases hr
      refine ⟨fun _ _ => ?_, fun h => absurd rfl h⟩
      have hnone : Region.ready .any ops L = [] := List.eq_nil_iff_forall_not_mem.2 (fun i hi => by
        obtain ⟨o, hm, hrd⟩ := (mem_ready_iff hp).1 hi
        have := noneReady_spec hc i o hm hrd
        cases this)
      cases n with
      | zero => exact ⟨hnone, rfl⟩
      | succ n => exact ⟨fun _ => rfl, fun i hi => by rw [hnone] at hi; cases hi⟩
    · cases hc
  | stop =>
    intro pend seen L n A s hc hp hN hr
    cases hr
  | one i k ih =>
    intro pend seen L n A s hc hp hN hr
    simp only [chk] at hc
    split at hc
    · refine ⟨fun _ hlen => ?_, fun h => absurd rfl h⟩
      split at hc
      · rename_i o hfind
        split at hc
        · rename_i hrd
          split at hc
          · rename_i hf
            split at hc
            · rename_i hfree
              simp only [runS] at hr
              split at hr
              · rename_i o' ho'
                have hm := findP_mem hfind
                have hoi := ((hp.mem i o).1 hm).1
                have ho'' := ops_get ho'
                rw [hoi] at ho''
                cases ho''
                split at hr
                · rename_i A' s' hs
                  have hss : s' = s := by
                    have h0 := hs
                    unfold stepD at hs
                    split at hs
                    · obtain ⟨r, hv, _⟩ := putR_some hs; exact valD_first hf hv
                    · obtain ⟨r, hv, _⟩ := putR_some hs; cases hv; rfl
                    · cases hs
                  subst hss
                  have hlt := dropP_lt hfind
                  cases n with
                  | zero => omega
                  | succ n =>
                    have hfr := freeP_spec hfree (fun j o hm => ((hp.mem j o).1 hm).1)
                    obtain ⟨D', d1, d2, d3, _, d5⟩ := hfr
                    have hpd : ∀ {j : Nat} {oj : Oper}, (j, oj) ∈ pend → L.getD j true = false := fun {j oj} hm => by
                      have hl := ((hp.mem j oj).1 hm).2
                      have hj' : j < L.size := (Array.getElem?_eq_some_iff.1 hl).1
                      simp [Array.getD, hj'] at hl ⊢; exact hl
                    refine anyOk_first (D := fun j => D' j ∧ j ≠ i) hoi hf (fun h => h.2 rfl) n L A A' s' hN ((mem_ready_iff hp).2 ⟨o, hm, hrd⟩) ⟨fun j hj => ?_, fun j oj hj hoj => ?_⟩ (fun j oj hj hne hun hno => ?_) hs ?_
                    · rcases d1 j hj.1 with h | ⟨oj, h⟩
                      · simp at h; exact absurd h hj.2
                      · exact hpd h
                    · obtain ⟨o2, ho2, e, he, hb, hon⟩ := d3 j hj.2 hj.1 (by simp; exact hj.2)
                      rw [hoj] at ho2
                      cases ho2
                      refine ⟨e, he, hb, ?_⟩
                      by_cases ei : e.on = i
                      · exact .inl ei
                      · exact .inr ⟨hon, ei⟩
                    · have hj' : j < L.size := by rw [hp.size]; exact (Array.getElem?_eq_some_iff.1 hj).1
                      have hpend : (j, oj) ∈ pend := (hp.mem j oj).2 ⟨hj, by simp [Array.getD, hj'] at hun ⊢; exact hun⟩
                      exact d5 j oj hpend hne (fun h => hno ⟨h, hne⟩)
                    · exact (ih _ [] _ n A' s' hc (hp.drop i) (by rw [stepD_n hs]; exact hN) hr).1 rfl (by omega)
                · cases hr
              · cases hr
            · cases hc
          · cases hc
        · cases hc
      · cases hc
    · cases hc
  | alt i k r ihk ihr =>
    intro pend seen L n A s hc hp hN hr
    simp only [chk] at hc
    split at hc
    · rename_i o hfind
      split at hc
      · rename_i hrd
        split at hc
        · rename_i hck
          have hm := findP_mem hfind
          have hoi := ((hp.mem i o).1 hm).1
          have hlt := dropP_lt hfind
          have hready := (mem_ready_iff hp).2 ⟨o, hm, hrd⟩
          simp only [runS] at hr
          split at hr
          · rename_i o' ho'
            have ho'' := ops_get ho'
            rw [hoi] at ho''
            cases ho''
            split at hr
            · rename_i A' s' hs
              split at hr
              · rename_i A1 s1 hk1
                -- this one
                have this : (A1, s1) = out → ∀ m, pend.length ≤ m + 1 → ∃ o A' s', ops[i]? = some o ∧ stepD cm E R ops.toList (B + i) o A s = some (A', s') ∧ AnyOk cm E R B ops out m (L.setIfInBounds i true) A' s' := fun e m hm => by
                  subst e
                  exact ⟨o, A', s', hoi, hs, (ihk _ [] _ m A' s' hck (hp.drop i) (by rw [stepD_n hs]; exact hN) hk1).1 rfl (by omega)⟩
                -- the others
                have rest : (A1, s1) = out ∧ (∀ m, pend.length ≤ m + 1 → ∀ j ∈ Region.ready .any ops L, j ∉ i :: seen → ∃ o A' s', ops[j]? = some o ∧ stepD cm E R ops.toList (B + j) o A s = some (A', s') ∧ AnyOk cm E R B ops out m (L.setIfInBounds j true) A' s') := by
                  split at hr
                  · rename_i hst
                    have := isStop_eq hst
                    subst this
                    cases hr
                    refine ⟨rfl, fun m hm j hj hns => ?_⟩
                    simp only [chk] at hc
                    obtain ⟨oj, hmj, hrj⟩ := (mem_ready_iff hp).1 hj
                    exact absurd (noneReady_spec hc j oj hmj hrj) hns
                  · split at hr
                    · rename_i A2 s2 hr2
                      split at hr
                      · rename_i e1
                        split at hr
                        · rename_i e2
                          cases hr
                          refine ⟨rfl, fun m hm => ?_⟩
                          have := eqS_eq e1
                          have e2 := eqAct_eq e2
                          subst this e2
                          exact (ihr pend (i :: seen) L m A s hc hp hN hr2).2 (by simp) hm
                        · cases hr
                      · cases hr
                    · cases hr
                obtain ⟨hout, rest⟩ := rest
                refine ⟨fun hs0 hlen => ?_, fun hs0 hlen j hj hns => ?_⟩
                · subst hs0
                  cases n with
                  | zero => omega
                  | succ n =>
                    refine ⟨fun h => (by rw [h] at hready; cases hready), fun j hj => ?_⟩
                    by_cases e : j = i
                    · subst e; exact this hout n hlen
                    · exact rest n hlen j hj (by simp [e])
                · by_cases e : j = i
                  · subst e; exact this hout n hlen
                  · exact rest n hlen j hj (by simp [e, hns])
              · cases hr
            · cases hr
          · cases hr
        · cases hc
      · cases hc
    · cases hc
  | dp ks =>
    intro pend seen L n A s hc hp hN hr
    simp only [chk] at hc
    split at hc
    · refine ⟨fun _ hlen => ?_, fun h => absurd rfl h⟩
      obtain ⟨h1, h2⟩ := eqKeys_eq (ops := ops) hc hp.wf
      simp only [runS, Array.toArray_toList] at hr
      rw [h1, h2] at hr
      have key := dp_sound hR (s0 := s) pend.length [(pend, A, s)] hr (fun x hx => by simp at hx; subst hx; exact ⟨hp.wf, hN, Stat.refl s⟩) (pend, A, s) (by simp) L hp
      exact anyOk_mono hlen key
    · cases hc

theorem mkPend_mem : ∀ (l : List Oper) (k i : Nat) (o : Oper), (i, o) ∈ mkPend k l ↔ k ≤ i ∧ l[i - k]? = some o
  | [], k, i, o => by simp [mkPend]
  | x :: r, k, i, o => by
    simp only [mkPend, List.mem_cons, Prod.mk.injEq]
    rw [mkPend_mem r (k + 1) i o]
    constructor
    · rintro (⟨rfl, rfl⟩ | ⟨h1, h2⟩)
      · exact ⟨Nat.le_refl _, by simp⟩
      · refine ⟨by omega, ?_⟩
        have : i - k = (i - (k + 1)) + 1 := by omega
        rw [this]
        simpa using h2
    · rintro ⟨h1, h2⟩
      by_cases e : i = k
      · subst e; left; simp at h2; exact ⟨rfl, h2.symm⟩
      · right
        refine ⟨by omega, ?_⟩
        have : i - k = (i - (k + 1)) + 1 := by omega
        rw [this] at h2
        simpa using h2
theorem mkPend_length : ∀ (l : List Oper) (k : Nat), (mkPend k l).length = l.length
  | [], _ => rfl
  | x :: r, k => by simp [mkPend, mkPend_length r (k + 1)]

theorem PInv.start (ops : Array Oper) : PInv ops (Array.replicate ops.size false) (mkPend 0 ops.toList) := by
  refine ⟨by simp, fun i o => ?_⟩
  rw [mkPend_mem]
  simp
  intro h
  simp [(Array.getElem?_eq_some_iff.1 h).1]

theorem addF_stat {p : Pend} {A : AAct} {s0 s : St} (hs : Stat s0 s) : ∀ {acc acc' : Front}, addF p A s acc = some acc' → (∀ x ∈ acc, Stat s0 x.2.2) → ∀ x ∈ acc', Stat s0 x.2.2
  | [], acc', h, hacc => by
    simp only [addF, Option.some.injEq] at h
    subst h
    intro x hx
    simp at hx
    subst hx
    exact hs
  | (q, A', s') :: r, acc', h, hacc => by
    simp only [addF] at h
    split at h
    · split at h
      · split at h
        · cases h; exact hacc
        · cases h
      · cases h
    · split at h
      · rename_i l hl
        cases h
        intro x hx
        rcases List.mem_cons.1 hx with rfl | hx
        · exact hacc _ (List.mem_cons_self ..)
        · exact addF_stat hs hl (fun x hx => hacc x (List.mem_cons_of_mem _ hx)) x hx
      · cases h
theorem stepE_stat {cm : Oper → Bool} {E : Env} {R : Rec} (hR : RecOk E R) {B : Nat} {ops : List Oper} {p : Pend} {A : AAct} {s0 s : St} (hs : Stat s0 s) : ∀ {l : List Nat} {acc acc' : Front}, stepE cm E R B ops p A s l acc = some acc' → (∀ x ∈ acc, Stat s0 x.2.2) → ∀ x ∈ acc', Stat s0 x.2.2
  | [], acc, acc', h, hacc => by cases h; exact hacc
  | i :: r, acc, acc', h, hacc => by
    simp only [stepE] at h
    split at h
    · split at h
      · rename_i A' s' h1
        split at h
        · rename_i acc1 h2
          exact stepE_stat hR hs h (addF_stat (hs.trans (stepD_stat hR h1)) h2 hacc)
        · cases h
      · cases h
    · cases h
theorem expandF_stat {cm : Oper → Bool} {E : Env} {R : Rec} (hR : RecOk E R) {B : Nat} {ops : Array Oper} {s0 : St} : ∀ {f acc f' : Front}, expandF cm E R B ops f acc = some f' → (∀ x ∈ f, Stat s0 x.2.2) → (∀ x ∈ acc, Stat s0 x.2.2) → ∀ x ∈ f', Stat s0 x.2.2
  | [], acc, f', h, hf, hacc => by cases h; exact hacc
  | (p, A, s) :: r, acc, f', h, hf, hacc => by
    simp only [expandF] at h
    split at h
    · cases h
    · split at h
      · rename_i acc1 h1
        exact expandF_stat hR h (fun x hx => hf x (List.mem_cons_of_mem _ hx)) (stepE_stat hR (hf _ (List.mem_cons_self ..)) h1 hacc)
      · cases h
theorem dpRun_stat {cm : Oper → Bool} {E : Env} {R : Rec} (hR : RecOk E R) {B : Nat} {ops : Array Oper} {s0 : St} {A' : AAct} {s' : St} : ∀ (k : Nat) {f : Front}, dpRun cm E R B ops k f = some (A', s') → (∀ x ∈ f, Stat s0 x.2.2) → Stat s0 s'
  | 0, f, h, hf => by
    simp only [dpRun] at h
    split at h
    · split at h
      · cases h; exact hf _ (List.mem_cons_self ..)
      · cases h
    · cases h
  | k + 1, f, h, hf => by
    simp only [dpRun] at h
    split at h
    · rename_i f' hf'
      exact dpRun_stat hR k h (expandF_stat hR hf' hf (fun x hx => by cases hx))
    · cases h
theorem runS_stat {cm : Oper → Bool} {E : Env} {R : Rec} (hR : RecOk E R) {B : Nat} {ops : List Oper} : ∀ (p : Sch) {A A' : AAct} {s s' : St}, runS cm E R B ops p A s = some (A', s') → Stat s s' := by
  intro p
  induction p with
  | done => intro A A' s s' h; cases h; exact Stat.refl _
  | stop => intro A A' s s' h; cases h
  | one i k ih =>
    intro A A' s s' h
    simp only [runS] at h
    split at h
    · split at h
      · rename_i h1
        exact (stepD_stat hR h1).trans (ih h)
      · cases h
    · cases h
  | alt i k r ihk ihr =>
    intro A A' s s' h
    simp only [runS] at h
    split at h
    · split at h
      · rename_i A1 s1 h1
        split at h
        · rename_i A2 s2 h2
          have key := (stepD_stat hR h1).trans (ihk h2)
          split at h
          · cases h; exact key
          · split at h
            · split at h
              · split at h
                · cases h; exact key
                · cases h
              · cases h
            · cases h
        · cases h
      · cases h
    · cases h
  | dp ks =>
    intro A A' s s' h
    simp only [runS] at h
    exact dpRun_stat hR _ h (fun x hx => by simp at hx; subst hx; exact Stat.refl _)

/-- A drawn region, by a plan. -/
theorem drawn_sound {cm : Oper → Bool} {E : Env} (hE : EnvOk E) {R : Rec} (hR : RecOk E R) {id B : Nat} {ops : Array Oper} {p : Sch} {ro : Option Nat} {Q : Exit → Act → World → Prop} {a : Act} {A A' : AAct} {g : Gh} {s s' : St} {w : World} (hm : E.P.follows .mixedOrders = true)
    (hc : chk cm ops ops.size p (mkPend 0 ops.toList) [] = true) (h : runS cm E R B ops.toList p A s = some (A', s')) (rel : Rel g s w) (glob : GlobOk E.G g w) (hA : ActOk g w A a) (hK : OpK g w A' s' (Q .normal)) : (Code.region id ops true).wpIn (FW ro) 0 E.P Q a w := by
  refine wpIn_region_any hm ?_
  have hany := (plan_sound hR p _ [] _ ops.size A s hc (PInv.start ops) hA.most h).1 rfl (by rw [mkPend_length]; simp)
  have same : Same w { w with drawn := w.drawn + 1 } := ⟨rfl, rfl, rfl, rfl⟩
  obtain ⟨ext, rel'⟩ := rel.same same
  exact anyOk_sound hE hR _ _ A s a g _ hany rel' (glob.ext ext) (hA.ext ext) (fun g2 w2 a2 e2 r2 h2 => hK g2 w2 a2 (ext.trans e2) r2 h2)

end Go.Am
