import GoSem.Step
import GoSem.Claim
import Derived.Below
import Derived.OrdersIn
import Derived.RangeFuncIn
import Derived.DefersIn
set_option linter.unusedVariables false
/-!
  THE ABSTRACT MACHINE, part A: abstract values; what they stand for in a world.
-/
namespace Go.Am
open Go Go.RowKit

inductive Cap where
  | exact
  | grow (t : Nat)
  | unk
  deriving Inhabited, DecidableEq

inductive AV where
  | val (v : Value)
  | ptr (id off : Nat)
  | rptr (cs : List AV) (off : Nat)
  | imm (n : Nat) (cs : List AV) (c : Cap)
  | mut (id off n cap : Nat)
  | map (id : Nat)
  | func (fn : Fn) (first captured : List AV)
  | yield (id : Nat)
  | iface (t : TypeId) (v : AV)
  | agg (cs : List AV)
  | tuple (vs : List AV)
  deriving Inhabited

/-- A list that may grow: its block, where it begins, its room, the size of an element, how many there are. -/
structure TokI where
  b : Nat
  o : Nat
  cap : Nat
  size : Nat
  n : Nat

/-- The ghost: which blocks the ids stand for; which cells never change again; the lists that may grow. -/
structure Gh where
  base : Nat
  use : Nat → Prop
  blk : Nat → Nat
  fix : Nat → Nat → Prop
  tuse : Nat → Prop
  tok : Nat → TokI

def Row (g : Gh) (w : World) (b o : Nat) (vs : List Value) : Prop := ∀ j u, vs[j]? = some u → w.cell? ⟨b, o + j, none⟩ = some u ∧ g.fix b (o + j)

def CapOk (g : Gh) (c : Cap) (b o n cap len : Nat) : Prop :=
  match c with
  | .exact => cap = n
  | .grow t => g.tuse t ∧ (n < (g.tok t).n ∨ n = (g.tok t).n ∧ b = (g.tok t).b ∧ o = (g.tok t).o ∧ cap = (g.tok t).cap ∧ len = n * (g.tok t).size)
  | .unk => True

mutual
def Rep (g : Gh) (w : World) : AV → Value → Prop
  | .val u, v => v = u
  | .ptr i off, v => g.use i ∧ v = .pointer (some ⟨g.blk i, off, none⟩)
  | .rptr cs off, v => ∃ b o vs, v = .pointer (some ⟨b, o + off, none⟩) ∧ RepAll g w cs vs ∧ Row g w b o vs
  | .imm n cs c, v => ∃ b o cap vs, v = .slice (some ⟨b, o, none⟩) n cap ∧ n ≤ cap ∧ cap ≤ maxLen ∧ RepAll g w cs vs ∧ Row g w b o vs ∧ CapOk g c b o n cap cs.length
  | .mut i off n cap, v => g.use i ∧ v = .slice (some ⟨g.blk i, off, none⟩) n cap ∧ n ≤ cap ∧ cap ≤ maxLen
  | .map i, v => g.use i ∧ v = .map (some (g.blk i))
  | .func fn f c, v => ∃ fs cs, v = .func fn fs.toArray cs.toArray ∧ RepAll g w f fs ∧ RepAll g w c cs
  | .yield i, v => g.use i ∧ v = .func (.yield (g.blk i)) #[] #[]
  | .iface t x, v => ∃ u, v = .iface t u ∧ Rep g w x u
  | .agg cs, v => ∃ vs, v = .agg vs.toArray ∧ RepAll g w cs vs
  | .tuple cs, v => ∃ vs, v = .tuple vs.toArray ∧ RepAll g w cs vs
def RepAll (g : Gh) (w : World) : List AV → List Value → Prop
  | [], vs => vs = []
  | a :: r, vs => ∃ v q, vs = v :: q ∧ Rep g w a v ∧ RepAll g w r q
end

theorem RepAll.length {g : Gh} {w : World} : ∀ {cs : List AV} {vs : List Value}, RepAll g w cs vs → vs.length = cs.length
  | [], vs, h => by simp only [RepAll] at h; rw [h]; rfl
  | a :: r, vs, h => by
    simp only [RepAll] at h
    obtain ⟨v, q, rfl, _, h2⟩ := h
    simp [RepAll.length h2]

theorem RepAll.get {g : Gh} {w : World} : ∀ {cs : List AV} {vs : List Value}, RepAll g w cs vs → ∀ {j : Nat} {a : AV}, cs[j]? = some a → ∃ v, vs[j]? = some v ∧ Rep g w a v
  | [], vs, h, j, a, ha => by simp at ha
  | x :: r, vs, h, j, a, ha => by
    simp only [RepAll] at h
    obtain ⟨v, q, rfl, h1, h2⟩ := h
    cases j with
    | zero => simp at ha; subst ha; exact ⟨v, rfl, h1⟩
    | succ j => simpa using RepAll.get h2 (j := j) (by simpa using ha)

theorem RepAll.append {g : Gh} {w : World} : ∀ {cs : List AV} {vs : List Value} {ds : List AV} {us : List Value}, RepAll g w cs vs → RepAll g w ds us → RepAll g w (cs ++ ds) (vs ++ us)
  | [], vs, ds, us, h, k => by simp only [RepAll] at h; subst h; exact k
  | a :: r, vs, ds, us, h, k => by
    simp only [RepAll] at h
    obtain ⟨v, q, rfl, h1, h2⟩ := h
    simp only [List.cons_append, RepAll]
    exact ⟨v, q ++ us, rfl, h1, RepAll.append h2 k⟩

theorem RepAll.take {g : Gh} {w : World} : ∀ {cs : List AV} {vs : List Value} (n : Nat), RepAll g w cs vs → RepAll g w (cs.take n) (vs.take n)
  | [], vs, n, h => by simp only [RepAll] at h; subst h; simp [RepAll]
  | a :: r, vs, n, h => by
    simp only [RepAll] at h
    obtain ⟨v, q, rfl, h1, h2⟩ := h
    cases n with
    | zero => simp [RepAll]
    | succ n => simp only [List.take_succ_cons, RepAll]; exact ⟨v, _, rfl, h1, RepAll.take n h2⟩

theorem RepAll.drop {g : Gh} {w : World} : ∀ {cs : List AV} {vs : List Value} (n : Nat), RepAll g w cs vs → RepAll g w (cs.drop n) (vs.drop n)
  | [], vs, n, h => by simp only [RepAll] at h; subst h; simp [RepAll]
  | a :: r, vs, n, h => by
    cases n with
    | zero => exact h
    | succ n =>
      simp only [RepAll] at h
      obtain ⟨v, q, rfl, h1, h2⟩ := h
      simpa using RepAll.drop n h2

theorem RepAll.set {g : Gh} {w : World} : ∀ {cs : List AV} {vs : List Value} (n : Nat) {a : AV} {v : Value}, RepAll g w cs vs → Rep g w a v → RepAll g w (cs.set n a) (vs.set n v)
  | [], vs, n, a, v, h, k => by simp only [RepAll] at h; subst h; simp [RepAll]
  | x :: r, vs, n, a, v, h, k => by
    simp only [RepAll] at h
    obtain ⟨u, q, rfl, h1, h2⟩ := h
    cases n with
    | zero => simp only [List.set_cons_zero, RepAll]; exact ⟨v, q, rfl, k, h2⟩
    | succ n => simp only [List.set_cons_succ, RepAll]; exact ⟨u, _, rfl, h1, RepAll.set n h2 k⟩

theorem repAll_vals {g : Gh} {w : World} : ∀ (vs : List Value), RepAll g w (vs.map .val) vs
  | [] => by simp [RepAll]
  | v :: r => by simp only [List.map_cons, RepAll]; exact ⟨v, r, rfl, by simp [Rep], repAll_vals r⟩

theorem Row.take {g : Gh} {w : World} {b o : Nat} {vs : List Value} (h : Row g w b o vs) (n : Nat) : Row g w b o (vs.take n) := fun j u hj => by
  rw [List.getElem?_take] at hj
  split at hj
  · exact h j u hj
  · cases hj
theorem Row.drop {g : Gh} {w : World} {b o : Nat} {vs : List Value} (h : Row g w b o vs) (n : Nat) : Row g w b (o + n) (vs.drop n) := fun j u hj => by
  rw [List.getElem?_drop] at hj
  have := h _ _ hj
  rwa [← Nat.add_assoc] at this

/-- What a run may do: nothing old is written (blocks below the base); what is fixed stays. -/
structure Ext (g : Gh) (w : World) (g' : Gh) (w' : World) : Prop where
  base : g'.base = g.base
  below : Below g.base w w'
  use : ∀ i, g.use i → g'.use i
  blk : ∀ i, g.use i → g'.blk i = g.blk i
  fix : ∀ b j, g.fix b j → g'.fix b j
  fixOld : ∀ b j, b < g.base → g'.fix b j → g.fix b j
  cell : ∀ b j, g.fix b j → w'.cell? ⟨b, j, none⟩ = w.cell? ⟨b, j, none⟩
  tuse : ∀ t, g.tuse t → g'.tuse t
  tok : ∀ t, g.tuse t → g'.tok t = g.tok t ∨ (g.tok t).n < (g'.tok t).n

theorem Ext.refl (g : Gh) (w : World) : Ext g w g w := ⟨rfl, Below.refl _ _, fun _ h => h, fun _ _ => rfl, fun _ _ h => h, fun _ _ _ h => h, fun _ _ _ => rfl, fun _ h => h, fun _ _ => .inl rfl⟩

theorem Ext.trans {g g' g'' : Gh} {w w' w'' : World} (h : Ext g w g' w') (k : Ext g' w' g'' w'') : Ext g w g'' w'' :=
  ⟨k.base.trans h.base, h.below.trans (h.base ▸ k.below), fun i hi => k.use i (h.use i hi), fun i hi => (k.blk i (h.use i hi)).trans (h.blk i hi),
    fun b j hf => k.fix b j (h.fix b j hf), fun b j hb hf => h.fixOld b j hb (k.fixOld b j (h.base ▸ hb) hf), fun b j hf => (k.cell b j (h.fix b j hf)).trans (h.cell b j hf),
    fun t ht => k.tuse t (h.tuse t ht),
    fun t ht => by
      rcases h.tok t ht with h1 | h1 <;> rcases k.tok t (h.tuse t ht) with h2 | h2
      · exact .inl (h2.trans h1)
      · exact .inr (h1 ▸ h2)
      · exact .inr (h2 ▸ h1)
      · exact .inr (Nat.lt_trans h1 h2)⟩

theorem Row.ext {g g' : Gh} {w w' : World} {b o : Nat} {vs : List Value} (h : Row g w b o vs) (e : Ext g w g' w') : Row g' w' b o vs := fun j u hj =>
  let ⟨h1, h2⟩ := h j u hj
  ⟨(e.cell _ _ h2).trans h1, e.fix _ _ h2⟩

theorem CapOk.ext {g g' : Gh} {w w' : World} {c : Cap} {b o n cap len : Nat} (h : CapOk g c b o n cap len) (e : Ext g w g' w') : CapOk g' c b o n cap len := by
  cases c with
  | exact => exact h
  | unk => trivial
  | grow t =>
    obtain ⟨ht, h⟩ := h
    refine ⟨e.tuse t ht, ?_⟩
    rcases e.tok t ht with h1 | h1
    · rw [h1]; exact h
    · rcases h with h | ⟨h, _⟩
      · exact .inl (Nat.lt_trans h h1)
      · exact .inl (h ▸ h1)

mutual
theorem Rep.ext {g g' : Gh} {w w' : World} (e : Ext g w g' w') : ∀ {a : AV} {v : Value}, Rep g w a v → Rep g' w' a v
  | .val u, v, h => by simpa [Rep] using h
  | .ptr i off, v, h => by
    simp only [Rep] at h ⊢
    exact ⟨e.use i h.1, by rw [e.blk i h.1]; exact h.2⟩
  | .rptr cs off, v, h => by
    simp only [Rep] at h ⊢
    obtain ⟨b, o, vs, h1, h2, h3⟩ := h
    exact ⟨b, o, vs, h1, RepAll.ext e h2, h3.ext e⟩
  | .imm n cs c, v, h => by
    simp only [Rep] at h ⊢
    obtain ⟨b, o, cap, vs, h1, h2, h3, h4, h5, h6⟩ := h
    exact ⟨b, o, cap, vs, h1, h2, h3, RepAll.ext e h4, h5.ext e, h6.ext e⟩
  | .mut i off n cap, v, h => by
    simp only [Rep] at h ⊢
    exact ⟨e.use i h.1, by rw [e.blk i h.1]; exact h.2⟩
  | .map i, v, h => by
    simp only [Rep] at h ⊢
    exact ⟨e.use i h.1, by rw [e.blk i h.1]; exact h.2⟩
  | .func fn f c, v, h => by
    simp only [Rep] at h ⊢
    obtain ⟨fs, cs, h1, h2, h3⟩ := h
    exact ⟨fs, cs, h1, RepAll.ext e h2, RepAll.ext e h3⟩
  | .yield i, v, h => by
    simp only [Rep] at h ⊢
    exact ⟨e.use i h.1, by rw [e.blk i h.1]; exact h.2⟩
  | .iface t x, v, h => by
    simp only [Rep] at h ⊢
    obtain ⟨u, h1, h2⟩ := h
    exact ⟨u, h1, Rep.ext e h2⟩
  | .agg cs, v, h => by
    simp only [Rep] at h ⊢
    obtain ⟨vs, h1, h2⟩ := h
    exact ⟨vs, h1, RepAll.ext e h2⟩
  | .tuple cs, v, h => by
    simp only [Rep] at h ⊢
    obtain ⟨vs, h1, h2⟩ := h
    exact ⟨vs, h1, RepAll.ext e h2⟩
theorem RepAll.ext {g g' : Gh} {w w' : World} (e : Ext g w g' w') : ∀ {cs : List AV} {vs : List Value}, RepAll g w cs vs → RepAll g' w' cs vs
  | [], vs, h => by simpa [RepAll] using h
  | a :: r, vs, h => by
    simp only [RepAll] at h ⊢
    obtain ⟨v, q, h1, h2, h3⟩ := h
    exact ⟨v, q, h1, Rep.ext e h2, RepAll.ext e h3⟩
end

end Go.Am
