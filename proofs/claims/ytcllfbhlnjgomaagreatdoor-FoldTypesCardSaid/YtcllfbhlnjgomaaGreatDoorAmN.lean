import Derived.Test.YtcllfbhlnjgomaaGreatDoorAmM
set_option linter.unusedVariables false
set_option linter.unusedSimpArgs false
/-!
  THE ABSTRACT MACHINE, part N: values that bear no number of an object; comparing values; the frame rule.
-/
namespace Go.Am
open Go Go.RowKit

mutual
def closedA : AV → Bool
  | .val _ => true
  | .ptr _ _ => false
  | .rptr cs _ => closedAll cs
  | .imm _ cs c => match c with
    | .grow _ => false
    | _ => closedAll cs
  | .mut _ _ _ _ => false
  | .map _ => false
  | .func _ f c => if closedAll f then closedAll c else false
  | .yield _ => false
  | .iface _ v => closedA v
  | .agg cs => closedAll cs
  | .tuple vs => closedAll vs
def closedAll : List AV → Bool
  | [] => true
  | a :: r => if closedA a then closedAll r else false
end

mutual
theorem Rep.closed {g g' : Gh} {w : World} (hf : ∀ b j, g.fix b j → g'.fix b j) : ∀ {a : AV} {v : Value}, closedA a = true → Rep g w a v → Rep g' w a v
  | .val u, v, _, h => by simpa [Rep] using h
  | .ptr _ _, v, hc, h => by cases hc
  | .rptr cs off, v, hc, h => by
    simp only [Rep] at h ⊢
    simp only [closedA] at hc
    obtain ⟨b, o, vs, h1, h2, h3⟩ := h
    exact ⟨b, o, vs, h1, RepAll.closed hf hc h2, fun j u hj => ⟨(h3 j u hj).1, hf _ _ (h3 j u hj).2⟩⟩
  | .imm n cs c, v, hc, h => by
    simp only [Rep] at h ⊢
    obtain ⟨b, o, cap, vs, h1, h2, h3, h4, h5, h6⟩ := h
    cases c with
    | grow t => simp [closedA] at hc
    | exact =>
      simp only [closedA] at hc
      exact ⟨b, o, cap, vs, h1, h2, h3, RepAll.closed hf hc h4, fun j u hj => ⟨(h5 j u hj).1, hf _ _ (h5 j u hj).2⟩, h6⟩
    | unk =>
      simp only [closedA] at hc
      exact ⟨b, o, cap, vs, h1, h2, h3, RepAll.closed hf hc h4, fun j u hj => ⟨(h5 j u hj).1, hf _ _ (h5 j u hj).2⟩, h6⟩
  | .mut _ _ _ _, v, hc, h => by cases hc
  | .map _, v, hc, h => by cases hc
  | .func fn f c, v, hc, h => by
    simp only [Rep] at h ⊢
    simp only [closedA] at hc
    obtain ⟨fs, cs, h1, h2, h3⟩ := h
    split at hc
    · rename_i hf'
      exact ⟨fs, cs, h1, RepAll.closed hf hf' h2, RepAll.closed hf hc h3⟩
    · cases hc
  | .yield _, v, hc, h => by cases hc
  | .iface t x, v, hc, h => by
    simp only [Rep] at h ⊢
    simp only [closedA] at hc
    obtain ⟨u, h1, h2⟩ := h
    exact ⟨u, h1, Rep.closed hf hc h2⟩
  | .agg cs, v, hc, h => by
    simp only [Rep] at h ⊢
    simp only [closedA] at hc
    obtain ⟨vs, h1, h2⟩ := h
    exact ⟨vs, h1, RepAll.closed hf hc h2⟩
  | .tuple cs, v, hc, h => by
    simp only [Rep] at h ⊢
    simp only [closedA] at hc
    obtain ⟨vs, h1, h2⟩ := h
    exact ⟨vs, h1, RepAll.closed hf hc h2⟩
theorem RepAll.closed {g g' : Gh} {w : World} (hf : ∀ b j, g.fix b j → g'.fix b j) : ∀ {cs : List AV} {vs : List Value}, closedAll cs = true → RepAll g w cs vs → RepAll g' w cs vs
  | [], vs, _, h => by simpa [RepAll] using h
  | a :: r, vs, hc, h => by
    simp only [RepAll] at h ⊢
    simp only [closedAll] at hc
    obtain ⟨v, q, h1, h2, h3⟩ := h
    split at hc
    · rename_i ha
      exact ⟨v, q, h1, Rep.closed hf ha h2, RepAll.closed hf hc h3⟩
    · cases hc
end

mutual
/-- Lists that may grow, as lists of which that is not known. -/
def weakA : AV → AV
  | .rptr cs off => .rptr (weakAll cs) off
  | .imm n cs c => .imm n (weakAll cs) (match c with
    | .grow _ => .unk
    | c => c)
  | .func fn f c => .func fn (weakAll f) (weakAll c)
  | .iface t v => .iface t (weakA v)
  | .agg cs => .agg (weakAll cs)
  | .tuple vs => .tuple (weakAll vs)
  | a => a
def weakAll : List AV → List AV
  | [] => []
  | a :: r => weakA a :: weakAll r
end
mutual
theorem Rep.weak {g : Gh} {w : World} : ∀ {a : AV} {v : Value}, Rep g w a v → Rep g w (weakA a) v
  | .val u, v, h => h
  | .ptr _ _, v, h => h
  | .rptr cs off, v, h => by
    simp only [weakA, Rep] at h ⊢
    obtain ⟨b, o, vs, h1, h2, h3⟩ := h
    exact ⟨b, o, vs, h1, RepAll.weak h2, h3⟩
  | .imm n cs c, v, h => by
    simp only [weakA, Rep] at h ⊢
    obtain ⟨b, o, cap, vs, h1, h2, h3, h4, h5, h6⟩ := h
    refine ⟨b, o, cap, vs, h1, h2, h3, RepAll.weak h4, h5, ?_⟩
    cases c with
    | exact => exact h6
    | unk => trivial
    | grow t => trivial
  | .mut _ _ _ _, v, h => h
  | .map _, v, h => h
  | .func fn f c, v, h => by
    simp only [weakA, Rep] at h ⊢
    obtain ⟨fs, cs, h1, h2, h3⟩ := h
    exact ⟨fs, cs, h1, RepAll.weak h2, RepAll.weak h3⟩
  | .yield _, v, h => h
  | .iface t x, v, h => by
    simp only [weakA, Rep] at h ⊢
    obtain ⟨u, h1, h2⟩ := h
    exact ⟨u, h1, Rep.weak h2⟩
  | .agg cs, v, h => by
    simp only [weakA, Rep] at h ⊢
    obtain ⟨vs, h1, h2⟩ := h
    exact ⟨vs, h1, RepAll.weak h2⟩
  | .tuple cs, v, h => by
    simp only [weakA, Rep] at h ⊢
    obtain ⟨vs, h1, h2⟩ := h
    exact ⟨vs, h1, RepAll.weak h2⟩
theorem RepAll.weak {g : Gh} {w : World} : ∀ {cs : List AV} {vs : List Value}, RepAll g w cs vs → RepAll g w (weakAll cs) vs
  | [], vs, h => h
  | a :: r, vs, h => by
    simp only [weakAll, RepAll] at h ⊢
    obtain ⟨v, q, h1, h2, h3⟩ := h
    exact ⟨v, q, h1, Rep.weak h2, RepAll.weak h3⟩
end

def shutB (q : AV) : Option AV := if closedA q then some q else none
/-- What a call hands back that leaves the memory as it was. -/
def shutA (r : AV) : Option AV := if closedA r then some r else shutB (weakA r)
theorem shutA_rep {r q : AV} (h : shutA r = some q) : closedA q = true ∧ ∀ {g : Gh} {w : World} {v : Value}, Rep g w r v → Rep g w q v := by
  unfold shutA at h
  split at h
  · rename_i hc; cases h; exact ⟨hc, fun h => h⟩
  · unfold shutB at h
    split at h
    · rename_i hc; cases h; exact ⟨hc, fun h => h.weak⟩
    · cases h

/-! ### The frame rule -/
def St.empty : St := { next := 0, objs := [], toks := [] }

/-- A ghost for a call of its own: all that is there is old. -/
def Gh.own (g : Gh) (w : World) : Gh := { base := w.heap.size, use := fun _ => False, blk := g.blk, fix := g.fix, tuse := fun _ => False, tok := g.tok }

theorem Rel.own {g : Gh} {s : St} {w : World} (h : Rel g s w) : Rel (g.own w) St.empty w :=
  ⟨Nat.le_refl _, fun i o hi => by simp [St.get, St.empty, lookL] at hi, fun _ h => h.elim, fun _ _ h => h.elim, fun _ h => h.elim, fun t n ht => by simp [St.tok, St.empty, lookL] at ht,
    fun _ h => h.elim, fun _ _ h => h.elim, fun _ _ h => h.elim, h.fixs⟩

/-- Back from it: what it has fixed stays; its objects are forgotten. -/
theorem Rel.back {g g1 : Gh} {s s1 : St} {w w1 : World} (h : Rel g s w) (e : Ext (g.own w) w g1 w1) (h1 : Rel g1 s1 w1) :
    Ext g w { g with fix := g1.fix } w1 ∧ Rel { g with fix := g1.fix } s w1 := by
  have hb : Below w.heap.size w w1 := e.below
  have hold : ∀ b j, b < w.heap.size → (g1.fix b j ↔ g.fix b j) := fun b j hlt => ⟨e.fixOld b j hlt, e.fix b j⟩
  have hblock : ∀ k, k < w.heap.size → w1.heap[k]? = w.heap[k]? := hb.block
  have ext : Ext g w { g with fix := g1.fix } w1 := by
    refine ⟨rfl, ⟨hb.os, hb.tape, hb.output, hb.size, fun k hk => hblock k (Nat.lt_of_lt_of_le hk h.top)⟩, fun _ h => h, fun _ _ => rfl, fun b j hf => e.fix b j hf,
      fun b j hlt hf => (hold b j (Nat.lt_of_lt_of_le hlt h.top)).1 hf, fun b j hf => e.cell b j hf, fun _ h => h, fun _ _ => .inl rfl⟩
  refine ⟨ext, ⟨Nat.le_trans h.top hb.size, fun i o hi => ?_, h.used, h.inj, fun i hi j hf => ?_, fun t n ht => ?_, h.tused, h.tinj, h.apart, fun b j hf => h1.fixs b j hf⟩⟩
  · obtain ⟨a1, a2, a3⟩ := h.objs i o hi
    refine ⟨a1, a2, ?_⟩
    show ORep _ _ o w1.heap[g.blk i]?
    rw [hblock _ a3.lt]
    exact a3.ext ext
  · exact h.free i hi j ((hold _ _ (h.blk_lt hi)).1 hf)
  · obtain ⟨a1, a2, a3⟩ := h.toks t n ht
    refine ⟨a1, a2, a3.old, ?_, a3.room, a3.most, fun j hj hf => a3.spare j hj ((hold _ _ (h.tok_lt a1)).1 hf)⟩
    show ∃ C T, w1.heap[(g.tok t).b]? = _ ∧ _
    rw [hblock _ (h.tok_lt a1)]
    exact a3.cells

/-! ### Comparing -/
def eqV : Value → Value → Bool
  | .bool a, .bool b => a == b
  | .int k a, .int k' b => if k = k' then decide (a = b) else false
  | .string a, .string b => decide (a.data.toList = b.data.toList)
  | .pointer none, .pointer none => true
  | .slice none a b, .slice none c d => if Nat.beq a c then Nat.beq b d else false
  | .map none, .map none => true
  | .nilFunc, .nilFunc => true
  | .nilIface, .nilIface => true
  | .tuple a, .tuple b => match a.toList, b.toList with
    | [], [] => true
    | _, _ => false
  | _, _ => false
theorem eqV_eq {a b : Value} (h : eqV a b = true) : a = b := by
  unfold eqV at h
  split at h
  · simpa using h
  · split at h
    · rename_i e; subst e; have := of_decide_eq_true h; subst this; rfl
    · cases h
  · rename_i x y
    have := of_decide_eq_true h
    have h2 : x.data = y.data := Array.ext' this
    cases x; cases y; simp only at h2; subst h2; rfl
  · rfl
  · split at h
    · rename_i e
      have h1 := Nat.eq_of_beq_eq_true e
      have h2 := Nat.eq_of_beq_eq_true h
      subst h1; subst h2; rfl
    · cases h
  · rfl
  · rfl
  · rfl
  · rename_i x y
    split at h
    · rename_i e1 e2
      have h1 : x = #[] := by rw [arr_eq e1]
      have h2 : y = #[] := by rw [arr_eq e2]
      rw [h1, h2]
    · cases h
  · cases h

def eqC : Cap → Cap → Bool
  | .exact, .exact => true
  | .unk, .unk => true
  | .grow a, .grow b => Nat.beq a b
  | _, _ => false
theorem eqC_eq {a b : Cap} (h : eqC a b = true) : a = b := by
  cases a <;> cases b <;> first
    | rfl
    | (have := Nat.eq_of_beq_eq_true h; subst this; rfl)
    | cases h

def eqF : Fn → Fn → Bool
  | .func a, .func b => Nat.beq a b
  | _, _ => false
theorem eqF_eq {a b : Fn} (h : eqF a b = true) : a = b := by
  cases a <;> cases b <;> first
    | (have := Nat.eq_of_beq_eq_true h; subst this; rfl)
    | cases h

mutual
def eqA : AV → AV → Bool
  | .val u, y => match y with
    | .val v => eqV u v
    | _ => false
  | .ptr i o, y => match y with
    | .ptr j p => if Nat.beq i j then Nat.beq o p else false
    | _ => false
  | .rptr cs o, y => match y with
    | .rptr ds p => if Nat.beq o p then eqAll cs ds else false
    | _ => false
  | .imm n cs c, y => match y with
    | .imm m ds d => if Nat.beq n m then (if eqC c d then eqAll cs ds else false) else false
    | _ => false
  | .mut i o n c, y => match y with
    | .mut j p m d => if Nat.beq i j then (if Nat.beq o p then (if Nat.beq n m then Nat.beq c d else false) else false) else false
    | _ => false
  | .map i, y => match y with
    | .map j => Nat.beq i j
    | _ => false
  | .func f a b, y => match y with
    | .func f' a' b' => if eqF f f' then (if eqAll a a' then eqAll b b' else false) else false
    | _ => false
  | .yield i, y => match y with
    | .yield j => Nat.beq i j
    | _ => false
  | .iface t v, y => match y with
    | .iface u w => if Nat.beq t u then eqA v w else false
    | _ => false
  | .agg cs, y => match y with
    | .agg ds => eqAll cs ds
    | _ => false
  | .tuple cs, y => match y with
    | .tuple ds => eqAll cs ds
    | _ => false
def eqAll : List AV → List AV → Bool
  | [], y => match y with
    | [] => true
    | _ => false
  | a :: r, y => match y with
    | b :: q => if eqA a b then eqAll r q else false
    | _ => false
end

mutual
theorem eqA_eq : ∀ {a b : AV}, eqA a b = true → a = b
  | .val u, b, h => by
    simp only [eqA] at h
    split at h
    · rw [eqV_eq h]
    · cases h
  | .ptr i o, b, h => by
    simp only [eqA] at h
    split at h
    · split at h
      · rename_i e; rw [Nat.eq_of_beq_eq_true e, Nat.eq_of_beq_eq_true h]
      · cases h
    · cases h
  | .rptr cs o, b, h => by
    simp only [eqA] at h
    split at h
    · split at h
      · rename_i e; rw [Nat.eq_of_beq_eq_true e, eqAll_eq h]
      · cases h
    · cases h
  | .imm n cs c, b, h => by
    simp only [eqA] at h
    split at h
    · split at h
      · rename_i e
        split at h
        · rename_i e2; rw [Nat.eq_of_beq_eq_true e, eqC_eq e2, eqAll_eq h]
        · cases h
      · cases h
    · cases h
  | .mut i o n c, b, h => by
    simp only [eqA] at h
    split at h
    · split at h
      · rename_i e
        split at h
        · rename_i e2
          split at h
          · rename_i e3; rw [Nat.eq_of_beq_eq_true e, Nat.eq_of_beq_eq_true e2, Nat.eq_of_beq_eq_true e3, Nat.eq_of_beq_eq_true h]
          · cases h
        · cases h
      · cases h
    · cases h
  | .map i, b, h => by
    simp only [eqA] at h
    split at h
    · rw [Nat.eq_of_beq_eq_true h]
    · cases h
  | .func f x y, b, h => by
    simp only [eqA] at h
    split at h
    · split at h
      · rename_i e
        split at h
        · rename_i e2; rw [eqF_eq e, eqAll_eq e2, eqAll_eq h]
        · cases h
      · cases h
    · cases h
  | .yield i, b, h => by
    simp only [eqA] at h
    split at h
    · rw [Nat.eq_of_beq_eq_true h]
    · cases h
  | .iface t v, b, h => by
    simp only [eqA] at h
    split at h
    · split at h
      · rename_i e; rw [Nat.eq_of_beq_eq_true e, eqA_eq h]
      · cases h
    · cases h
  | .agg cs, b, h => by
    simp only [eqA] at h
    split at h
    · rw [eqAll_eq h]
    · cases h
  | .tuple cs, b, h => by
    simp only [eqA] at h
    split at h
    · rw [eqAll_eq h]
    · cases h
theorem eqAll_eq : ∀ {a b : List AV}, eqAll a b = true → a = b
  | [], b, h => by
    simp only [eqAll] at h
    split at h
    · rfl
    · cases h
  | a :: r, b, h => by
    simp only [eqAll] at h
    split at h
    · split at h
      · rename_i e; rw [eqA_eq e, eqAll_eq h]
      · cases h
    · cases h
end

def eqT : Tr → Tr → Bool
  | .leaf, y => match y with
    | .leaf => true
    | _ => false
  | .node v l r, y => match y with
    | .node u a b => if eqA v u then (if eqT l a then eqT r b else false) else false
    | _ => false
theorem eqT_eq : ∀ {a b : Tr}, eqT a b = true → a = b
  | .leaf, b, h => by
    simp only [eqT] at h
    split at h
    · rfl
    · cases h
  | .node v l r, b, h => by
    simp only [eqT] at h
    split at h
    · split at h
      · rename_i e
        split at h
        · rename_i e2; rw [eqA_eq e, eqT_eq e2, eqT_eq h]
        · cases h
      · cases h
    · cases h

def eqEs : List (Int × AV) → List (Int × AV) → Bool
  | [], y => match y with
    | [] => true
    | _ => false
  | (n, a) :: r, y => match y with
    | (m, b) :: q => if decide (n = m) then (if eqA a b then eqEs r q else false) else false
    | _ => false
theorem eqEs_eq : ∀ {a b : List (Int × AV)}, eqEs a b = true → a = b
  | [], b, h => by
    simp only [eqEs] at h
    split at h
    · rfl
    · cases h
  | (n, a) :: r, b, h => by
    simp only [eqEs] at h
    split at h
    · split at h
      · rename_i e
        split at h
        · rename_i e2; rw [of_decide_eq_true e, eqA_eq e2, eqEs_eq h]
        · cases h
      · cases h
    · cases h

def eqO : AObj → AObj → Bool
  | .cells cs t, .cells ds u => if Nat.beq t u then eqAll cs ds else false
  | .map k es, .map k' fs => if k = k' then eqEs es fs else false
  | .mark, .mark => true
  | .gone, .gone => true
  | _, _ => false
theorem eqO_eq {a b : AObj} (h : eqO a b = true) : a = b := by
  unfold eqO at h
  split at h
  · split at h
    · rename_i e; rw [Nat.eq_of_beq_eq_true e, eqAll_eq h]
    · cases h
  · split at h
    · rename_i e; rw [e, eqEs_eq h]
    · cases h
  · rfl
  · rfl
  · cases h

def eqOs : List (Nat × AObj) → List (Nat × AObj) → Bool
  | [], y => match y with
    | [] => true
    | _ => false
  | (n, a) :: r, y => match y with
    | (m, b) :: q => if Nat.beq n m then (if eqO a b then eqOs r q else false) else false
    | _ => false
theorem eqOs_eq : ∀ {a b : List (Nat × AObj)}, eqOs a b = true → a = b
  | [], b, h => by
    simp only [eqOs] at h
    split at h
    · rfl
    · cases h
  | (n, a) :: r, b, h => by
    simp only [eqOs] at h
    split at h
    · split at h
      · rename_i e
        split at h
        · rename_i e2; rw [Nat.eq_of_beq_eq_true e, eqO_eq e2, eqOs_eq h]
        · cases h
      · cases h
    · cases h
def eqTs : List (Nat × Nat) → List (Nat × Nat) → Bool
  | [], y => match y with
    | [] => true
    | _ => false
  | (n, a) :: r, y => match y with
    | (m, b) :: q => if Nat.beq n m then (if Nat.beq a b then eqTs r q else false) else false
    | _ => false
theorem eqTs_eq : ∀ {a b : List (Nat × Nat)}, eqTs a b = true → a = b
  | [], b, h => by
    simp only [eqTs] at h
    split at h
    · rfl
    · cases h
  | (n, a) :: r, b, h => by
    simp only [eqTs] at h
    split at h
    · split at h
      · rename_i e
        split at h
        · rename_i e2; rw [Nat.eq_of_beq_eq_true e, Nat.eq_of_beq_eq_true e2, eqTs_eq h]
        · cases h
      · cases h
    · cases h
def eqS (s s' : St) : Bool := if Nat.beq s.next s'.next then (if eqTs s.toks s'.toks then eqOs s.objs s'.objs else false) else false
theorem eqS_eq {s s' : St} (h : eqS s s' = true) : s = s' := by
  unfold eqS at h
  split at h
  · rename_i e1
    split at h
    · rename_i e2
      have h1 := Nat.eq_of_beq_eq_true e1
      have h2 := eqTs_eq e2
      have h3 := eqOs_eq h
      cases s; cases s'
      simp only at h1 h2 h3
      rw [h1, h2, h3]
    · cases h
  · cases h

/-! ### The loops that are under way -/
def LoopAt (i : Nat) (ps : Array Tmp) (as bd : Code) (s : St) : Prop := ∃ st p n tm, s.get i = some (.loop st p n tm ps as bd)
/-- The loops of s' are those of s; what does not change of a loop has not changed. -/
def Stat (s s' : St) : Prop := ∀ i ps as bd, LoopAt i ps as bd s' → LoopAt i ps as bd s
theorem Stat.refl (s : St) : Stat s s := fun _ _ _ _ h => h
theorem Stat.trans {s s' s'' : St} (h : Stat s s') (k : Stat s' s'') : Stat s s'' := fun i ps as bd x => h i ps as bd (k i ps as bd x)
theorem Stat.of_get {s s' : St} (h : ∀ k, s'.get k = s.get k) : Stat s s' := fun i ps as bd ⟨st, p, n, tm, e⟩ => ⟨st, p, n, tm, (h i).symm.trans e⟩
def isLoop : AObj → Bool
  | .loop _ _ _ _ _ _ _ => true
  | _ => false
theorem Stat.add {s : St} {i : Nat} {o : AObj} (ho : isLoop o = false) : Stat s (s.add i o) := fun k ps as bd ⟨st, p, n, tm, e⟩ => by
  have e2 : (s.add i o).get k = if k = i then some o else s.get k := lookL_insL i o s.objs k
  rw [e2] at e
  split at e
  · cases e; cases ho
  · exact ⟨st, p, n, tm, e⟩
theorem Stat.put {s : St} {i : Nat} {o o' : AObj} (h : s.get i = some o') (ho : isLoop o = false) : Stat s (s.put i o) := fun k ps as bd ⟨st, p, n, tm, e⟩ => by
  have e2 : (s.put i o).get k = if k = i then some o else s.get k := lookL_putL h k
  rw [e2] at e
  split at e
  · cases e; cases ho
  · exact ⟨st, p, n, tm, e⟩
theorem Stat.put_loop {s : St} {i : Nat} {st st' : LoopState} {p p' : Option Code} {n n' : Nat} {tm tm' : Tr} {ps : Array Tmp} {as bd : Code} (h : s.get i = some (.loop st p n tm ps as bd)) : Stat s (s.put i (.loop st' p' n' tm' ps as bd)) := fun k qs cs dd ⟨st2, p2, n2, tm2, e⟩ => by
  have e2 : (s.put i (.loop st' p' n' tm' ps as bd)).get k = if k = i then some (.loop st' p' n' tm' ps as bd) else s.get k := lookL_putL h k
  rw [e2] at e
  split at e
  · rename_i hk
    cases e
    subst hk
    exact ⟨st, p, n, tm, h⟩
  · exact ⟨st2, p2, n2, tm2, e⟩
theorem Stat.next (s : St) (n : Nat) : Stat s { s with next := n } := Stat.of_get (fun _ => rfl)

theorem newA_stat {s s' : St} {i : Nat} {t : TypeId} {cs : List AV} {r : AV} (h : newA s i t cs = some (r, s')) : Stat s s' := by
  unfold newA at h
  split at h
  · cases h; exact Stat.add rfl
  · cases h
theorem appendA_stat {P : Program} {s s' : St} {i : Nat} {ts : List TypeId} {x y r : AV} (h : appendA P s i ts x y = some (r, s')) : Stat s s' := by
  unfold appendA at h
  repeat' split at h
  all_goals first
    | (cases h; exact Stat.of_get (fun _ => rfl))
    | cases h
theorem storeA_stat {P : Program} {s s' : St} {t : TypeId} {a x : AV} (h : storeA P s t a x = some s') : Stat s s' := by
  unfold storeA at h
  repeat' split at h
  all_goals first
    | (cases h; done)
    | (rename_i hget _ _ _ _ _ _; cases h; exact Stat.put hget rfl)
theorem mapUpdateA_stat {P : Program} {s s' : St} {t : TypeId} {m ix x : AV} (h : mapUpdateA P s t m ix x = some s') : Stat s s' := by
  unfold mapUpdateA at h
  repeat' split at h
  all_goals first
    | (cases h; done)
    | (rename_i hget _; cases h; exact Stat.put hget rfl)
theorem withS_stat {q : Option St} {r : AV} {s s' : St} (h : withS q = some (r, s')) (k : ∀ s1, q = some s1 → Stat s s1) : Stat s s' := by
  cases q with
  | none => cases h
  | some x => cases h; exact k _ rfl

theorem eOp_stat {P : Program} {ev : Operand → Option AV} {i : Nat} {s s' : St} {o : Oper} {r : AV} (h : eOp P ev i s o = some (r, s')) : Stat s s' := by
  unfold eOp at h
  split at h
  · unfold allocA at h
    split at h
    · exact newA_stat h
    · cases h
  · split at h
    · exact newA_stat h
    · cases h
  · split at h
    · split at h
      · cases h; exact Stat.refl _
      · cases h
    · cases h
  · split at h
    · exact withS_stat h (fun s1 e => storeA_stat e)
    · cases h
  · split at h
    · unfold makeMapA at h
      repeat' split at h
      all_goals first
        | (cases h; done)
        | (cases h; exact Stat.add rfl)
    · cases h
  · split at h
    · unfold makeSliceA at h
      repeat' split at h
      all_goals first
        | (cases h; done)
        | (rename_i hnew; cases h; exact newA_stat hnew)
    · cases h
  · split at h
    · exact withS_stat h (fun s1 e => mapUpdateA_stat e)
    · cases h
  · split at h
    · exact withS_stat h (fun s1 e => mapUpdateA_stat e)
    · cases h
  · split at h
    · split at h
      · split at h
        · exact appendA_stat h
        · cases h
      · cases h
    · cases h
  · cases h

def noLoop : List (Nat × AObj) → Bool
  | [] => true
  | (_, o) :: r => if isLoop o then false else noLoop r
theorem noLoop_look {i : Nat} {o : AObj} : ∀ {l : List (Nat × AObj)}, noLoop l = true → lookL i l = some o → isLoop o = false
  | [], _, h => by cases h
  | (j, x) :: r, hn, h => by
    simp only [noLoop] at hn
    split at hn
    · cases hn
    · rename_i hx
      simp only [lookL] at h
      split at h
      · cases h; simpa using hx
      · exact noLoop_look hn h
theorem Stat.of_none {s s' : St} (h : noLoop s'.objs = true) : Stat s s' := fun i ps as bd ⟨st, p, n, tm, e⟩ => by
  have := noLoop_look h e
  cases this

def eqPend : Option Code → Option Code → Bool
  | none, none => true
  | some (.ret), some (.ret) => true
  | some (.exit a), some (.exit b) => Nat.beq a b
  | some (.goto a), some (.goto b) => Nat.beq a b
  | _, _ => false
theorem eqPend_eq {a b : Option Code} (h : eqPend a b = true) : a = b := by
  unfold eqPend at h
  split at h
  · rfl
  · rfl
  · rw [Nat.eq_of_beq_eq_true h]
  · rw [Nat.eq_of_beq_eq_true h]
  · cases h
def eqLS : LoopState → LoopState → Bool
  | .ready, .ready => true
  | .busy, .busy => true
  | .done, .done => true
  | .exhausted, .exhausted => true
  | _, _ => false
theorem eqLS_eq {a b : LoopState} (h : eqLS a b = true) : a = b := by cases a <;> cases b <;> first | rfl | cases h

/-- The same, but for what does not change of a loop. -/
def likeO : AObj → AObj → Bool
  | .loop st p n tm _ _ _, y => match y with
    | .loop st' p' n' tm' _ _ _ => if eqLS st st' then (if eqPend p p' then (if Nat.beq n n' then eqT tm tm' else false) else false) else false
    | _ => false
  | a, b => eqO a b
def likeOs : List (Nat × AObj) → List (Nat × AObj) → Bool
  | [], y => match y with
    | [] => true
    | _ => false
  | (n, a) :: r, y => match y with
    | (m, b) :: q => if Nat.beq n m then (if likeO a b then likeOs r q else false) else false
    | _ => false
def downB : List (Nat × AObj) → Bool
  | [] => true
  | (i, _) :: r => match r with
    | [] => true
    | (j, _) :: _ => if Nat.blt j i then downB r else false
def likeS (s s' : St) : Bool := if Nat.beq s.next s'.next then (if eqTs s.toks s'.toks then (if downB s.objs then likeOs s.objs s'.objs else false) else false) else false

theorem downB_lt : ∀ {i : Nat} {o : AObj} {r : List (Nat × AObj)}, downB ((i, o) :: r) = true → downB r = true ∧ ∀ j x, (j, x) ∈ r → j < i
  | i, o, [], _ => ⟨rfl, fun j x h => by cases h⟩
  | i, o, (k, y) :: r, h => by
    simp only [downB] at h
    split at h
    · rename_i hk
      have hk : k < i := by rw [Nat.blt_eq] at hk; exact hk
      have h' : downB ((k, y) :: r) = true := h
      obtain ⟨_, h2⟩ := downB_lt h'
      refine ⟨h', fun j x hm => ?_⟩
      rcases List.mem_cons.1 hm with e | hm
      · cases e; exact hk
      · exact Nat.lt_trans (h2 j x hm) hk
    · cases h
theorem downB_look {i : Nat} {o : AObj} : ∀ {l : List (Nat × AObj)}, downB l = true → (i, o) ∈ l → lookL i l = some o
  | [], _, h => by cases h
  | (j, x) :: r, hd, h => by
    obtain ⟨h1, h2⟩ := downB_lt hd
    rw [lookL_cons]
    rcases List.mem_cons.1 h with e | h
    · cases e; simp
    · have := h2 _ _ h
      have hne : ¬ i = j := by omega
      simp [hne, downB_look h1 h]
theorem likeOs_down : ∀ {l l' : List (Nat × AObj)}, likeOs l l' = true → downB l = true → downB l' = true
  | [], l', h, _ => by
    simp only [likeOs] at h
    split at h
    · rfl
    · cases h
  | (n, a) :: r, l', h, hd => by
    simp only [likeOs] at h
    split at h
    · rename_i m b q
      split at h
      · rename_i e
        have e := Nat.eq_of_beq_eq_true e
        subst e
        split at h
        · have hr := likeOs_down h (downB_lt hd).1
          cases r with
          | nil =>
            cases q with
            | nil => rfl
            | cons y q => simp [likeOs] at h
          | cons x r =>
            cases q with
            | nil => simp [likeOs] at h
            | cons y q =>
              obtain ⟨x1, x2⟩ := x
              obtain ⟨y1, y2⟩ := y
              have hxy : x1 = y1 := by
                simp only [likeOs] at h
                split at h
                · rename_i e; exact Nat.eq_of_beq_eq_true e
                · cases h
              subst hxy
              simp only [downB] at hd ⊢
              split at hd
              · rename_i hlt; rw [if_pos hlt]; exact hr
              · cases hd
        · cases h
      · cases h
    · cases h
theorem likeO_eq {a b : AObj} (h : likeO a b = true) (k : ∀ st p n tm ps as bd st' p' n' tm' ps' as' bd', a = .loop st p n tm ps as bd → b = .loop st' p' n' tm' ps' as' bd' → ps = ps' ∧ as = as' ∧ bd = bd') : a = b := by
  unfold likeO at h
  split at h
  · split at h
    · split at h
      · rename_i e1
        split at h
        · rename_i e2
          split at h
          · rename_i e3
            obtain ⟨h1, h2, h3⟩ := k _ _ _ _ _ _ _ _ _ _ _ _ _ _ rfl rfl
            rw [eqLS_eq e1, eqPend_eq e2, Nat.eq_of_beq_eq_true e3, eqT_eq h, h1, h2, h3]
          · cases h
        · cases h
      · cases h
    · cases h
  · exact eqO_eq h
theorem likeOs_eq : ∀ {l l' : List (Nat × AObj)}, likeOs l l' = true → (∀ i a b, (i, a) ∈ l → (i, b) ∈ l' → ∀ st p n tm ps as bd st' p' n' tm' ps' as' bd', a = .loop st p n tm ps as bd → b = .loop st' p' n' tm' ps' as' bd' → ps = ps' ∧ as = as' ∧ bd = bd') → l = l'
  | [], l', h, _ => by
    simp only [likeOs] at h
    split at h
    · rfl
    · cases h
  | (n, a) :: r, l', h, k => by
    simp only [likeOs] at h
    split at h
    · rename_i m b q
      split at h
      · rename_i e
        have e := Nat.eq_of_beq_eq_true e
        subst e
        split at h
        · rename_i hab
          rw [likeO_eq hab (k n a b (List.mem_cons_self ..) (List.mem_cons_self ..)), likeOs_eq h (fun i a b ha hb => k i a b (List.mem_cons_of_mem _ ha) (List.mem_cons_of_mem _ hb))]
        · cases h
      · cases h
    · cases h
theorem likeS_eq {s0 s s' : St} (h : likeS s s' = true) (h1 : Stat s0 s) (h2 : Stat s0 s') : s = s' := by
  unfold likeS at h
  split at h
  · rename_i e1
    split at h
    · rename_i e2
      split at h
      · rename_i e3
        have e1 := Nat.eq_of_beq_eq_true e1
        have e2 := eqTs_eq e2
        have e4 : s.objs = s'.objs := likeOs_eq h (fun i a b ha hb st p n tm ps as bd st' p' n' tm' ps' as' bd' ea eb => by
          subst ea eb
          have g1 : s.get i = some (.loop st p n tm ps as bd) := downB_look e3 ha
          have g2 : s'.get i = some (.loop st' p' n' tm' ps' as' bd') := downB_look (likeOs_down h e3) hb
          obtain ⟨_, _, _, _, k1⟩ := h1 i ps as bd ⟨st, p, n, tm, g1⟩
          obtain ⟨_, _, _, _, k2⟩ := h2 i ps' as' bd' ⟨st', p', n', tm', g2⟩
          rw [k1] at k2
          cases k2
          exact ⟨rfl, rfl, rfl⟩)
        cases s; cases s'
        simp only at e1 e2 e4
        rw [e1, e2, e4]
      · cases h
    · cases h
  · cases h

end Go.Am
