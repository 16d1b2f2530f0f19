import GoSem.Step
import GoSem.Claim
import Derived.Below
import Derived.OrdersIn
import Derived.RangeFuncIn
import Derived.DefersIn
import Derived.Laws.Cells
import Derived.Laws.Entries
import Derived.Deep.MidRow
import Derived.Laws.Tables
import Derived.Great.BuildSlice
set_option linter.unusedVariables false
/-!
  THE ABSTRACT MACHINE, part A: abstract values; what they stand for in a world.
-/
namespace Go.Am
open Go Go.RowKit

inductive Cap where
  | exact
  | grow (t : Nat)
  | unk
  deriving Inhabited, DecidableEq

inductive AV where
  | val (v : Value)
  | ptr (id off : Nat)
  | rptr (cs : List AV) (off : Nat)
  | imm (n : Nat) (cs : List AV) (c : Cap)
  | mut (id off n cap : Nat)
  | map (id : Nat)
  | func (fn : Fn) (first captured : List AV)
  | yield (id : Nat)
  | iface (t : TypeId) (v : AV)
  | agg (cs : List AV)
  | tuple (vs : List AV)
  deriving Inhabited

/-- A list that may grow: its block, where it begins, its room, the size of an element, how many there are. -/
structure TokI where
  b : Nat
  o : Nat
  cap : Nat
  size : Nat
  n : Nat

/-- The ghost: which blocks the ids stand for; which cells never change again; the lists that may grow. -/
structure Gh where
  base : Nat
  use : Nat → Prop
  blk : Nat → Nat
  fix : Nat → Nat → Prop
  tuse : Nat → Prop
  tok : Nat → TokI

def Row (g : Gh) (w : World) (b o : Nat) (vs : List Value) : Prop := ∀ j u, vs[j]? = some u → w.cell? ⟨b, o + j, none⟩ = some u ∧ g.fix b (o + j)

def CapOk (g : Gh) (c : Cap) (b o n cap len : Nat) : Prop :=
  match c with
  | .exact => cap = n
  | .grow t => g.tuse t ∧ (n < (g.tok t).n ∨ n = (g.tok t).n ∧ b = (g.tok t).b ∧ o = (g.tok t).o ∧ cap = (g.tok t).cap ∧ len = n * (g.tok t).size)
  | .unk => True

mutual
def Rep (g : Gh) (w : World) : AV → Value → Prop
  | .val u, v => v = u
  | .ptr i off, v => g.use i ∧ v = .pointer (some ⟨g.blk i, off, none⟩)
  | .rptr cs off, v => ∃ b o vs, v = .pointer (some ⟨b, o + off, none⟩) ∧ RepAll g w cs vs ∧ Row g w b o vs
  | .imm n cs c, v => ∃ b o cap vs, v = .slice (some ⟨b, o, none⟩) n cap ∧ n ≤ cap ∧ cap ≤ maxLen ∧ RepAll g w cs vs ∧ Row g w b o vs ∧ CapOk g c b o n cap cs.length
  | .mut i off n cap, v => g.use i ∧ v = .slice (some ⟨g.blk i, off, none⟩) n cap ∧ n ≤ cap ∧ cap ≤ maxLen
  | .map i, v => g.use i ∧ v = .map (some (g.blk i))
  | .func fn f c, v => ∃ fs cs, v = .func fn fs.toArray cs.toArray ∧ RepAll g w f fs ∧ RepAll g w c cs
  | .yield i, v => g.use i ∧ v = .func (.yield (g.blk i)) #[] #[]
  | .iface t x, v => ∃ u, v = .iface t u ∧ Rep g w x u
  | .agg cs, v => ∃ vs, v = .agg vs.toArray ∧ RepAll g w cs vs
  | .tuple cs, v => ∃ vs, v = .tuple vs.toArray ∧ RepAll g w cs vs
def RepAll (g : Gh) (w : World) : List AV → List Value → Prop
  | [], vs => vs = []
  | a :: r, vs => ∃ v q, vs = v :: q ∧ Rep g w a v ∧ RepAll g w r q
end

theorem RepAll.length {g : Gh} {w : World} : ∀ {cs : List AV} {vs : List Value}, RepAll g w cs vs → vs.length = cs.length
  | [], vs, h => by simp only [RepAll] at h; rw [h]; rfl
  | a :: r, vs, h => by
    simp only [RepAll] at h
    obtain ⟨v, q, rfl, _, h2⟩ := h
    simp [RepAll.length h2]

theorem RepAll.get {g : Gh} {w : World} : ∀ {cs : List AV} {vs : List Value}, RepAll g w cs vs → ∀ {j : Nat} {a : AV}, cs[j]? = some a → ∃ v, vs[j]? = some v ∧ Rep g w a v
  | [], vs, h, j, a, ha => by simp at ha
  | x :: r, vs, h, j, a, ha => by
    simp only [RepAll] at h
    obtain ⟨v, q, rfl, h1, h2⟩ := h
    cases j with
    | zero => simp at ha; subst ha; exact ⟨v, rfl, h1⟩
    | succ j => simpa using RepAll.get h2 (j := j) (by simpa using ha)

theorem RepAll.append {g : Gh} {w : World} : ∀ {cs : List AV} {vs : List Value} {ds : List AV} {us : List Value}, RepAll g w cs vs → RepAll g w ds us → RepAll g w (cs ++ ds) (vs ++ us)
  | [], vs, ds, us, h, k => by simp only [RepAll] at h; subst h; exact k
  | a :: r, vs, ds, us, h, k => by
    simp only [RepAll] at h
    obtain ⟨v, q, rfl, h1, h2⟩ := h
    simp only [List.cons_append, RepAll]
    exact ⟨v, q ++ us, rfl, h1, RepAll.append h2 k⟩

theorem RepAll.take {g : Gh} {w : World} : ∀ {cs : List AV} {vs : List Value} (n : Nat), RepAll g w cs vs → RepAll g w (cs.take n) (vs.take n)
  | [], vs, n, h => by simp only [RepAll] at h; subst h; simp [RepAll]
  | a :: r, vs, n, h => by
    simp only [RepAll] at h
    obtain ⟨v, q, rfl, h1, h2⟩ := h
    cases n with
    | zero => simp [RepAll]
    | succ n => simp only [List.take_succ_cons, RepAll]; exact ⟨v, _, rfl, h1, RepAll.take n h2⟩

theorem RepAll.drop {g : Gh} {w : World} : ∀ {cs : List AV} {vs : List Value} (n : Nat), RepAll g w cs vs → RepAll g w (cs.drop n) (vs.drop n)
  | [], vs, n, h => by simp only [RepAll] at h; subst h; simp [RepAll]
  | a :: r, vs, n, h => by
    cases n with
    | zero => exact h
    | succ n =>
      simp only [RepAll] at h
      obtain ⟨v, q, rfl, h1, h2⟩ := h
      simpa using RepAll.drop n h2

theorem RepAll.set {g : Gh} {w : World} : ∀ {cs : List AV} {vs : List Value} (n : Nat) {a : AV} {v : Value}, RepAll g w cs vs → Rep g w a v → RepAll g w (cs.set n a) (vs.set n v)
  | [], vs, n, a, v, h, k => by simp only [RepAll] at h; subst h; simp [RepAll]
  | x :: r, vs, n, a, v, h, k => by
    simp only [RepAll] at h
    obtain ⟨u, q, rfl, h1, h2⟩ := h
    cases n with
    | zero => simp only [List.set_cons_zero, RepAll]; exact ⟨v, q, rfl, k, h2⟩
    | succ n => simp only [List.set_cons_succ, RepAll]; exact ⟨u, _, rfl, h1, RepAll.set n h2 k⟩

theorem repAll_vals {g : Gh} {w : World} : ∀ (vs : List Value), RepAll g w (vs.map .val) vs
  | [] => by simp [RepAll]
  | v :: r => by simp only [List.map_cons, RepAll]; exact ⟨v, r, rfl, by simp [Rep], repAll_vals r⟩

theorem Row.take {g : Gh} {w : World} {b o : Nat} {vs : List Value} (h : Row g w b o vs) (n : Nat) : Row g w b o (vs.take n) := fun j u hj => by
  rw [List.getElem?_take] at hj
  split at hj
  · exact h j u hj
  · cases hj
theorem Row.drop {g : Gh} {w : World} {b o : Nat} {vs : List Value} (h : Row g w b o vs) (n : Nat) : Row g w b (o + n) (vs.drop n) := fun j u hj => by
  rw [List.getElem?_drop] at hj
  have := h _ _ hj
  rwa [← Nat.add_assoc] at this

/-- What a run may do: nothing old is written (blocks below the base); what is fixed stays. -/
structure Ext (g : Gh) (w : World) (g' : Gh) (w' : World) : Prop where
  base : g'.base = g.base
  below : Below g.base w w'
  use : ∀ i, g.use i → g'.use i
  blk : ∀ i, g.use i → g'.blk i = g.blk i
  fix : ∀ b j, g.fix b j → g'.fix b j
  fixOld : ∀ b j, b < g.base → g'.fix b j → g.fix b j
  cell : ∀ b j, g.fix b j → w'.cell? ⟨b, j, none⟩ = w.cell? ⟨b, j, none⟩
  tuse : ∀ t, g.tuse t → g'.tuse t
  tok : ∀ t, g.tuse t → g'.tok t = g.tok t ∨ (g.tok t).n < (g'.tok t).n

theorem Ext.refl (g : Gh) (w : World) : Ext g w g w := ⟨rfl, Below.refl _ _, fun _ h => h, fun _ _ => rfl, fun _ _ h => h, fun _ _ _ h => h, fun _ _ _ => rfl, fun _ h => h, fun _ _ => .inl rfl⟩

theorem Ext.trans {g g' g'' : Gh} {w w' w'' : World} (h : Ext g w g' w') (k : Ext g' w' g'' w'') : Ext g w g'' w'' :=
  ⟨k.base.trans h.base, h.below.trans (h.base ▸ k.below), fun i hi => k.use i (h.use i hi), fun i hi => (k.blk i (h.use i hi)).trans (h.blk i hi),
    fun b j hf => k.fix b j (h.fix b j hf), fun b j hb hf => h.fixOld b j hb (k.fixOld b j (h.base ▸ hb) hf), fun b j hf => (k.cell b j (h.fix b j hf)).trans (h.cell b j hf),
    fun t ht => k.tuse t (h.tuse t ht),
    fun t ht => by
      rcases h.tok t ht with h1 | h1 <;> rcases k.tok t (h.tuse t ht) with h2 | h2
      · exact .inl (h2.trans h1)
      · exact .inr (h1 ▸ h2)
      · exact .inr (h2 ▸ h1)
      · exact .inr (Nat.lt_trans h1 h2)⟩

theorem Row.ext {g g' : Gh} {w w' : World} {b o : Nat} {vs : List Value} (h : Row g w b o vs) (e : Ext g w g' w') : Row g' w' b o vs := fun j u hj =>
  let ⟨h1, h2⟩ := h j u hj
  ⟨(e.cell _ _ h2).trans h1, e.fix _ _ h2⟩

theorem CapOk.ext {g g' : Gh} {w w' : World} {c : Cap} {b o n cap len : Nat} (h : CapOk g c b o n cap len) (e : Ext g w g' w') : CapOk g' c b o n cap len := by
  cases c with
  | exact => exact h
  | unk => trivial
  | grow t =>
    obtain ⟨ht, h⟩ := h
    refine ⟨e.tuse t ht, ?_⟩
    rcases e.tok t ht with h1 | h1
    · rw [h1]; exact h
    · rcases h with h | ⟨h, _⟩
      · exact .inl (Nat.lt_trans h h1)
      · exact .inl (h ▸ h1)

mutual
theorem Rep.ext {g g' : Gh} {w w' : World} (e : Ext g w g' w') : ∀ {a : AV} {v : Value}, Rep g w a v → Rep g' w' a v
  | .val u, v, h => by simpa [Rep] using h
  | .ptr i off, v, h => by
    simp only [Rep] at h ⊢
    exact ⟨e.use i h.1, by rw [e.blk i h.1]; exact h.2⟩
  | .rptr cs off, v, h => by
    simp only [Rep] at h ⊢
    obtain ⟨b, o, vs, h1, h2, h3⟩ := h
    exact ⟨b, o, vs, h1, RepAll.ext e h2, h3.ext e⟩
  | .imm n cs c, v, h => by
    simp only [Rep] at h ⊢
    obtain ⟨b, o, cap, vs, h1, h2, h3, h4, h5, h6⟩ := h
    exact ⟨b, o, cap, vs, h1, h2, h3, RepAll.ext e h4, h5.ext e, h6.ext e⟩
  | .mut i off n cap, v, h => by
    simp only [Rep] at h ⊢
    exact ⟨e.use i h.1, by rw [e.blk i h.1]; exact h.2⟩
  | .map i, v, h => by
    simp only [Rep] at h ⊢
    exact ⟨e.use i h.1, by rw [e.blk i h.1]; exact h.2⟩
  | .func fn f c, v, h => by
    simp only [Rep] at h ⊢
    obtain ⟨fs, cs, h1, h2, h3⟩ := h
    exact ⟨fs, cs, h1, RepAll.ext e h2, RepAll.ext e h3⟩
  | .yield i, v, h => by
    simp only [Rep] at h ⊢
    exact ⟨e.use i h.1, by rw [e.blk i h.1]; exact h.2⟩
  | .iface t x, v, h => by
    simp only [Rep] at h ⊢
    obtain ⟨u, h1, h2⟩ := h
    exact ⟨u, h1, Rep.ext e h2⟩
  | .agg cs, v, h => by
    simp only [Rep] at h ⊢
    obtain ⟨vs, h1, h2⟩ := h
    exact ⟨vs, h1, RepAll.ext e h2⟩
  | .tuple cs, v, h => by
    simp only [Rep] at h ⊢
    obtain ⟨vs, h1, h2⟩ := h
    exact ⟨vs, h1, RepAll.ext e h2⟩
theorem RepAll.ext {g g' : Gh} {w w' : World} (e : Ext g w g' w') : ∀ {cs : List AV} {vs : List Value}, RepAll g w cs vs → RepAll g' w' cs vs
  | [], vs, h => by simpa [RepAll] using h
  | a :: r, vs, h => by
    simp only [RepAll] at h ⊢
    obtain ⟨v, q, h1, h2, h3⟩ := h
    exact ⟨v, q, h1, Rep.ext e h2, RepAll.ext e h3⟩
end

end Go.Am

set_option linter.unusedVariables false
set_option linter.unusedSimpArgs false
/-!
  THE ABSTRACT MACHINE, part B: its memory; what it stands for.
-/
namespace Go.Am
open Go Go.RowKit

/-- Temporaries: a trie. -/
inductive Tr where
  | leaf
  | node (v : AV) (l r : Tr)
  deriving Inhabited
def path : Nat → Nat → List Bool
  | 0, _ => []
  | k + 1, n => match n with
    | 0 => []
    | n + 1 => Nat.beq (n % 2) 1 :: path k (n / 2)
def Tr.getP : List Bool → Tr → AV
  | _, .leaf => .val undef
  | [], .node v _ _ => v
  | true :: p, .node _ _ r => Tr.getP p r
  | false :: p, .node _ l _ => Tr.getP p l
def Tr.setP (x : AV) : List Bool → Tr → Tr
  | [], .node _ l r => .node x l r
  | [], .leaf => .node x .leaf .leaf
  | true :: p, .node v l r => .node v l (Tr.setP x p r)
  | false :: p, .node v l r => .node v (Tr.setP x p l) r
  | true :: p, .leaf => .node (.val undef) .leaf (Tr.setP x p .leaf)
  | false :: p, .leaf => .node (.val undef) (Tr.setP x p .leaf) .leaf
def Tr.get (t : Tr) (n : Nat) : AV := Tr.getP (path 16 n) t
def Tr.set (t : Tr) (n : Nat) (x : AV) : Tr := Tr.setP x (path 16 n) t

theorem path_inj : ∀ (k n m : Nat), n < 2 ^ k → m < 2 ^ k → path k n = path k m → n = m
  | 0, n, m, hn, hm, _ => by simp at hn hm; omega
  | k + 1, 0, 0, _, _, _ => rfl
  | k + 1, 0, m + 1, _, _, h => by simp [path] at h
  | k + 1, n + 1, 0, _, _, h => by simp [path] at h
  | k + 1, n + 1, m + 1, hn, hm, h => by
    have hp : 2 ^ (k + 1) = 2 * 2 ^ k := by rw [Nat.pow_succ]; omega
    simp only [path, List.cons.injEq] at h
    obtain ⟨h1, h2⟩ := h
    have h3 := path_inj k (n / 2) (m / 2) (by omega) (by omega) h2
    have h4 : n % 2 = 1 ↔ m % 2 = 1 := by
      constructor
      · intro e; rw [e] at h1; exact Nat.eq_of_beq_eq_true h1.symm
      · intro e; rw [e] at h1; exact Nat.eq_of_beq_eq_true h1
    omega

theorem Tr.getP_leaf (p : List Bool) : Tr.getP p .leaf = .val undef := by cases p <;> rfl
theorem Tr.getP_setP (x : AV) : ∀ (q : List Bool) (t : Tr) (p : List Bool), Tr.getP p (Tr.setP x q t) = if p = q then x else Tr.getP p t
  | [], .leaf, [] => rfl
  | [], .leaf, true :: p => by simp [Tr.setP, Tr.getP]
  | [], .leaf, false :: p => by simp [Tr.setP, Tr.getP]
  | [], .node v l r, [] => rfl
  | [], .node v l r, true :: p => by simp [Tr.setP, Tr.getP]
  | [], .node v l r, false :: p => by simp [Tr.setP, Tr.getP]
  | true :: q, .leaf, [] => by simp [Tr.setP, Tr.getP]
  | false :: q, .leaf, [] => by simp [Tr.setP, Tr.getP]
  | true :: q, .leaf, true :: p => by simp [Tr.setP, Tr.getP, Tr.getP_setP x q .leaf p, Tr.getP_leaf]
  | true :: q, .leaf, false :: p => by simp [Tr.setP, Tr.getP]
  | false :: q, .leaf, true :: p => by simp [Tr.setP, Tr.getP]
  | false :: q, .leaf, false :: p => by simp [Tr.setP, Tr.getP, Tr.getP_setP x q .leaf p, Tr.getP_leaf]
  | true :: q, .node v l r, [] => by simp [Tr.setP, Tr.getP]
  | false :: q, .node v l r, [] => by simp [Tr.setP, Tr.getP]
  | true :: q, .node v l r, true :: p => by simp [Tr.setP, Tr.getP, Tr.getP_setP x q r p]
  | true :: q, .node v l r, false :: p => by simp [Tr.setP, Tr.getP]
  | false :: q, .node v l r, true :: p => by simp [Tr.setP, Tr.getP]
  | false :: q, .node v l r, false :: p => by simp [Tr.setP, Tr.getP, Tr.getP_setP x q l p]

theorem Tr.setP_comm (x y : AV) : ∀ (p q : List Bool) (t : Tr), p ≠ q → Tr.setP x p (Tr.setP y q t) = Tr.setP y q (Tr.setP x p t)
  | [], [], _, h => absurd rfl h
  | [], true :: q, .leaf, _ => rfl
  | [], false :: q, .leaf, _ => rfl
  | [], true :: q, .node v l r, _ => rfl
  | [], false :: q, .node v l r, _ => rfl
  | true :: p, [], .leaf, _ => rfl
  | false :: p, [], .leaf, _ => rfl
  | true :: p, [], .node v l r, _ => rfl
  | false :: p, [], .node v l r, _ => rfl
  | true :: p, false :: q, .leaf, _ => rfl
  | false :: p, true :: q, .leaf, _ => rfl
  | true :: p, false :: q, .node v l r, _ => rfl
  | false :: p, true :: q, .node v l r, _ => rfl
  | true :: p, true :: q, .leaf, h => by simp [Tr.setP, Tr.setP_comm x y p q .leaf (fun e => h (by rw [e]))]
  | false :: p, false :: q, .leaf, h => by simp [Tr.setP, Tr.setP_comm x y p q .leaf (fun e => h (by rw [e]))]
  | true :: p, true :: q, .node v l r, h => by simp [Tr.setP, Tr.setP_comm x y p q r (fun e => h (by rw [e]))]
  | false :: p, false :: q, .node v l r, h => by simp [Tr.setP, Tr.setP_comm x y p q l (fun e => h (by rw [e]))]

theorem Tr.get_set {t : Tr} {n k : Nat} {x : AV} (hn : n < 65536) (hk : k < 65536) : (t.set n x).get k = if k = n then x else t.get k := by
  unfold Tr.get Tr.set
  rw [Tr.getP_setP]
  by_cases e : k = n
  · subst e; simp
  · have : path 16 k ≠ path 16 n := fun h => e (path_inj 16 k n hk hn h)
    simp [this, e]
theorem Tr.set_comm {t : Tr} {n k : Nat} {x y : AV} (hn : n < 65536) (hk : k < 65536) (h : n ≠ k) : (t.set k y).set n x = (t.set n x).set k y :=
  Tr.setP_comm x y _ _ t (fun e => h (path_inj 16 n k hn hk e))

/-- The temporaries are as the trie says. -/
def TmOk (g : Gh) (w : World) (N : Nat) (t : Tr) (vs : Array Value) : Prop := vs.size = N ∧ ∀ k u, vs[k]? = some u → Rep g w (t.get k) u

theorem TmOk.ext {g g' : Gh} {w w' : World} {N : Nat} {t : Tr} {vs : Array Value} (h : TmOk g w N t vs) (e : Ext g w g' w') : TmOk g' w' N t vs := ⟨h.1, fun k u hk => (h.2 k u hk).ext e⟩

theorem TmOk.set {g : Gh} {w : World} {N d : Nat} {t : Tr} {vs : Array Value} {x : AV} {v : Value} (h : TmOk g w N t vs) (hN : N ≤ 65536) (hd : d < N) (hx : Rep g w x v) : TmOk g w N (t.set d x) (vs.setIfInBounds d v) := by
  refine ⟨by rw [Array.size_setIfInBounds]; exact h.1, fun k u hk => ?_⟩
  have hlt : k < vs.size := by
    have := (Array.getElem?_eq_some_iff.1 hk).1
    rwa [Array.size_setIfInBounds] at this
  rw [h.1] at hlt
  rw [Tr.get_set (by omega) (by omega)]
  rw [Array.getElem?_setIfInBounds] at hk
  by_cases e : d = k
  · subst e
    have : d < vs.size := by rw [h.1]; exact hd
    simp [this] at hk
    subst hk
    simp [hx]
  · have e' : ¬ k = d := fun h => e h.symm
    simp only [e, if_false] at hk
    simp only [e', if_false]
    exact h.2 k u hk

inductive AObj where
  | cells (cs : List AV) (t : TypeId)
  | map (kk : IntKind) (es : List (Int × AV))
  | loop (state : LoopState) (pending : Option Code) (n : Nat) (tmps : Tr) (params : Array Tmp) (assign body : Code)
  | mark
  | gone
  deriving Inhabited

structure St where
  next : Nat
  objs : List (Nat × AObj)
  toks : List (Nat × Nat)
  deriving Inhabited

def lookL {α : Type} (i : Nat) : List (Nat × α) → Option α
  | [] => none
  | (j, o) :: r => if Nat.beq i j then some o else lookL i r
def putL {α : Type} (i : Nat) (o : α) : List (Nat × α) → List (Nat × α)
  | [] => []
  | (j, x) :: r => if Nat.beq i j then (j, o) :: r else (j, x) :: putL i o r

theorem beq_ne {i j : Nat} (h : i ≠ j) : Nat.beq i j = false := by
  rw [← Bool.not_eq_true]; intro e; exact h (Nat.eq_of_beq_eq_true e)

theorem lookL_putL {α : Type} {i : Nat} {o o' : α} : ∀ {l : List (Nat × α)}, lookL i l = some o' → ∀ k, lookL k (putL i o l) = if k = i then some o else lookL k l
  | [], h, k => by simp [lookL] at h
  | (j, x) :: r, h, k => by
    simp only [lookL] at h
    by_cases e : i = j
    · subst e
      have hb : Nat.beq i i = true := Nat.beq_refl i
      simp only [putL, hb, if_true, lookL]
      by_cases ek : k = i
      · subst ek; simp [hb]
      · have : Nat.beq k i = false := beq_ne ek
        simp [this, ek]
    · have hb : Nat.beq i j = false := beq_ne e
      rw [hb] at h
      simp only [Bool.false_eq_true, if_false] at h
      simp only [putL, hb, Bool.false_eq_true, if_false, lookL]
      by_cases ekj : k = j
      · subst ekj
        have hk : Nat.beq k k = true := Nat.beq_refl k
        have hne : k ≠ i := fun e2 => e e2.symm
        simp [hk, hne]
      · have hk : Nat.beq k j = false := beq_ne ekj
        rw [hk]
        simp only [Bool.false_eq_true, if_false]
        exact lookL_putL h k

theorem lookL_cons {α : Type} (i k : Nat) (o : α) (l : List (Nat × α)) : lookL k ((i, o) :: l) = if k = i then some o else lookL k l := by
  simp only [lookL]
  by_cases e : k = i
  · subst e; simp
  · have : Nat.beq k i = false := beq_ne e
    simp [this, e]

/-- In its place: the greater ids first. -/
def insL {α : Type} (i : Nat) (o : α) : List (Nat × α) → List (Nat × α)
  | [] => [(i, o)]
  | (j, x) :: r => if Nat.blt i j then (j, x) :: insL i o r else (i, o) :: (j, x) :: r
theorem lookL_insL {α : Type} (i : Nat) (o : α) : ∀ (l : List (Nat × α)) (k : Nat), lookL k (insL i o l) = if k = i then some o else lookL k l
  | [], k => lookL_cons i k o []
  | (j, x) :: r, k => by
    simp only [insL]
    split
    · rename_i h
      rw [lookL_cons, lookL_cons, lookL_insL i o r k]
      have : i < j := by rw [Nat.blt_eq] at h; exact h
      by_cases e : k = j
      · have : ¬ k = i := by omega
        simp [e]; omega
      · simp [e]
    · exact lookL_cons i k o _

def St.get (s : St) (i : Nat) : Option AObj := lookL i s.objs
def St.tok (s : St) (t : Nat) : Option Nat := lookL t s.toks
def St.put (s : St) (i : Nat) (o : AObj) : St := { s with objs := putL i o s.objs }
def St.add (s : St) (i : Nat) (o : AObj) : St := { s with objs := insL i o s.objs }
def St.addT (s : St) (t n : Nat) : St := { s with toks := insL t n s.toks }
def St.putT (s : St) (t n : Nat) : St := { s with toks := putL t n s.toks }

/-- Looking a number up. -/
def findI (n : Int) : List (Int × AV) → Option AV
  | [] => none
  | (m, a) :: r => if n = m then some a else findI n r
/-- The first entry at a number's key: where it lies, what it holds. -/
def getI (n : Int) : List MapEntry → Nat → Option (Nat × Value)
  | [], _ => none
  | e :: r, i => match e.key with
    | .int _ m => if n = m then some (i, e.val) else getI n r (i + 1)
    | _ => getI n r (i + 1)

def VRep (g : Gh) (w : World) : Option AV → Option (Nat × Value) → Prop
  | none, v => v = none
  | some a, v => ∃ i u, v = some (i, u) ∧ Rep g w a u
theorem VRep.ext {g g' : Gh} {w w' : World} (e : Ext g w g' w') {a : Option AV} {v : Option (Nat × Value)} (h : VRep g w a v) : VRep g' w' a v := by
  cases a with
  | none => exact h
  | some a => obtain ⟨i, u, h1, h2⟩ := h; exact ⟨i, u, h1, h2.ext e⟩

def MRep (g : Gh) (w : World) (kk : IntKind) (es : List (Int × AV)) (ms : List MapEntry) : Prop :=
  (∀ e ∈ ms, ∃ n, e.key = .int kk n) ∧ ∀ n, VRep g w (findI n es) (getI n ms 0)

theorem MRep.ext {g g' : Gh} {w w' : World} (e : Ext g w g' w') {kk : IntKind} {es : List (Int × AV)} {ms : List MapEntry} (h : MRep g w kk es ms) : MRep g' w' kk es ms := ⟨h.1, fun n => (h.2 n).ext e⟩

def ORep (g : Gh) (w : World) : AObj → Option Obj → Prop
  | .cells cs t, h => ∃ vs, h = some (.cells vs.toArray t (0, 0)) ∧ RepAll g w cs vs
  | .map kk es, h => ∃ ms clock, h = some (.map ms clock) ∧ MRep g w kk es ms.toList
  | .loop state pending n tmps params assign body, h => ∃ fn defers vs, h = some (.loop { state, pending, fn, tmps := vs, params, assign, body, defers }) ∧ TmOk g w n tmps vs
  | .mark, h => h = some (.deferred (some []))
  | .gone, h => ∃ x, h = some x

theorem ORep.ext {g g' : Gh} {w w' : World} (e : Ext g w g' w') : ∀ {o : AObj} {h : Option Obj}, ORep g w o h → ORep g' w' o h
  | .cells cs t, h, ⟨vs, h1, h2⟩ => ⟨vs, h1, RepAll.ext e h2⟩
  | .map kk es, h, ⟨ms, c, h1, h2⟩ => ⟨ms, c, h1, h2.ext e⟩
  | .loop .., h, ⟨fn, d, vs, h1, h2⟩ => ⟨fn, d, vs, h1, h2.ext e⟩
  | .mark, h, k => k
  | .gone, h, k => k

/-- What a list that may grow is. -/
structure TokOk (g : Gh) (w : World) (i : TokI) : Prop where
  old : g.base ≤ i.b
  cells : ∃ C T, w.heap[i.b]? = some (.cells C T (0, 0)) ∧ C.size = i.o + i.cap * i.size
  room : i.n ≤ i.cap
  most : i.cap ≤ maxLen
  spare : ∀ j, i.o + i.n * i.size ≤ j → ¬ g.fix i.b j

/-- The abstract memory s stands for the world w. -/
structure Rel (g : Gh) (s : St) (w : World) : Prop where
  top : g.base ≤ w.heap.size
  objs : ∀ i o, s.get i = some o → g.use i ∧ g.base ≤ g.blk i ∧ ORep g w o w.heap[g.blk i]?
  used : ∀ i, g.use i → (s.get i).isSome = true
  inj : ∀ i j, g.use i → g.use j → g.blk i = g.blk j → i = j
  free : ∀ i, g.use i → ∀ j, ¬ g.fix (g.blk i) j
  toks : ∀ t n, s.tok t = some n → g.tuse t ∧ (g.tok t).n = n ∧ TokOk g w (g.tok t)
  tused : ∀ t, g.tuse t → (s.tok t).isSome = true
  tinj : ∀ t u, g.tuse t → g.tuse u → (g.tok t).b = (g.tok u).b → t = u
  apart : ∀ i t, g.use i → g.tuse t → g.blk i ≠ (g.tok t).b
  fixs : ∀ b j, g.fix b j → b < w.heap.size

theorem ORep.lt {g : Gh} {w : World} {o : AObj} {k : Nat} (h : ORep g w o w.heap[k]?) : k < w.heap.size := by
  have : ∃ x, w.heap[k]? = some x := by
    cases o with
    | cells cs t => obtain ⟨vs, h1, _⟩ := h; exact ⟨_, h1⟩
    | map es => obtain ⟨ms, c, h1, _⟩ := h; exact ⟨_, h1⟩
    | loop => obtain ⟨fn, d, vs, h1, _⟩ := h; exact ⟨_, h1⟩
    | mark => exact ⟨_, h⟩
    | gone => exact h
  obtain ⟨x, hx⟩ := this
  exact (Array.getElem?_eq_some_iff.1 hx).1

theorem Rel.blk_lt {g : Gh} {s : St} {w : World} (h : Rel g s w) {i : Nat} (hi : g.use i) : g.blk i < w.heap.size := by
  have h1 := h.used i hi
  obtain ⟨o, ho⟩ := Option.isSome_iff_exists.1 h1
  exact (h.objs i o ho).2.2.lt

theorem Rel.tok_of {g : Gh} {s : St} {w : World} (h : Rel g s w) {t : Nat} (ht : g.tuse t) : TokOk g w (g.tok t) := by
  obtain ⟨n, hn⟩ := Option.isSome_iff_exists.1 (h.tused t ht)
  exact (h.toks t n hn).2.2
theorem Rel.tok_lt {g : Gh} {s : St} {w : World} (h : Rel g s w) {t : Nat} (ht : g.tuse t) : (g.tok t).b < w.heap.size := by
  obtain ⟨C, T, h1, _⟩ := (h.tok_of ht).cells
  exact (Array.getElem?_eq_some_iff.1 h1).1

/-- Only the block k has turned (or blocks have come). -/
structure But (k : Nat) (w w' : World) : Prop where
  os : w'.os = w.os
  tape : w'.tape = w.tape
  output : w'.output = w.output
  size : w.heap.size ≤ w'.heap.size
  block : ∀ j, j < w.heap.size → j ≠ k → w'.heap[j]? = w.heap[j]?

theorem But.cell {k : Nat} {w w' : World} (h : But k w w') {b j : Nat} (hb : b < w.heap.size) (hk : b ≠ k) : w'.cell? ⟨b, j, none⟩ = w.cell? ⟨b, j, none⟩ :=
  World.cell?_of_block (h.block b hb hk)

theorem But.below {k B : Nat} {w w' : World} (h : But k w w') (hB : B ≤ w.heap.size) (hk : B ≤ k) : Below B w w' :=
  ⟨h.os, h.tape, h.output, h.size, fun j hj => h.block j (Nat.lt_of_lt_of_le hj hB) (by omega)⟩

theorem Rel.ext_but {g : Gh} {s : St} {w w' : World} (h : Rel g s w) {i : Nat} {o : AObj} (hi : s.get i = some o) (hb : But (g.blk i) w w') : Ext g w g w' := by
  obtain ⟨hu, hbase, hor⟩ := h.objs i o hi
  refine ⟨rfl, hb.below h.top hbase, fun _ h => h, fun _ _ => rfl, fun _ _ h => h, fun _ _ _ h => h, fun b j hf => ?_, fun _ h => h, fun _ _ => .inl rfl⟩
  exact hb.cell (h.fixs b j hf) (fun e => h.free i hu j (by rw [← e]; exact hf))

/-- An object is written. -/
theorem Rel.write {g : Gh} {s : St} {w w' : World} (h : Rel g s w) {i : Nat} {o o' : AObj} (hi : s.get i = some o) (hb : But (g.blk i) w w') (ho : ORep g w o' w'.heap[g.blk i]?) :
    Ext g w g w' ∧ Rel g (s.put i o') w' := by
  obtain ⟨hu, hbase, hor⟩ := h.objs i o hi
  have ext : Ext g w g w' := by
    refine ⟨rfl, hb.below h.top hbase, fun _ h => h, fun _ _ => rfl, fun _ _ h => h, fun _ _ _ h => h, fun b j hf => ?_, fun _ h => h, fun _ _ => .inl rfl⟩
    exact hb.cell (h.fixs b j hf) (fun e => h.free i hu j (by rw [← e]; exact hf))
  refine ⟨ext, ⟨Nat.le_trans h.top hb.size, fun k x hk => ?_, fun k hk => ?_, h.inj, h.free, fun t n ht => ?_, h.tused, h.tinj, h.apart, fun b j hf => Nat.lt_of_lt_of_le (h.fixs b j hf) hb.size⟩⟩
  · have hk' : (if k = i then some o' else s.get k) = some x := by rw [← hk]; exact (lookL_putL hi k).symm
    split at hk'
    · rename_i e; subst e; cases hk'
      exact ⟨hu, hbase, ho.ext ext⟩
    · rename_i e
      obtain ⟨h1, h2, h3⟩ := h.objs k x hk'
      refine ⟨h1, h2, ?_⟩
      rw [hb.block _ h3.lt (fun e2 => e (h.inj k i h1 hu e2))]
      exact h3.ext ext
  · have : (s.put i o').get k = if k = i then some o' else s.get k := lookL_putL hi k
    rw [this]; split
    · rfl
    · exact h.used k hk
  · obtain ⟨h1, h2, h3⟩ := h.toks t n ht
    refine ⟨h1, h2, h3.old, ?_, h3.room, h3.most, h3.spare⟩
    rw [hb.block _ (h.tok_lt h1) (fun e => h.apart i t hu h1 e.symm)]
    exact h3.cells

theorem Rel.next {g : Gh} {s : St} {w : World} (h : Rel g s w) (n : Nat) : Rel g { s with next := n } w := ⟨h.top, h.objs, h.used, h.inj, h.free, h.toks, h.tused, h.tinj, h.apart, h.fixs⟩

end Go.Am

set_option linter.unusedVariables false
set_option linter.unusedSimpArgs false
/-!
  THE ABSTRACT MACHINE, part C: new blocks; lists that grow.
-/
namespace Go.Am
open Go Go.RowKit

/-- The same memory. -/
structure Same (w w' : World) : Prop where
  heap : w'.heap = w.heap
  os : w'.os = w.os
  tape : w'.tape = w.tape
  output : w'.output = w.output

theorem Same.refl (w : World) : Same w w := ⟨rfl, rfl, rfl, rfl⟩
theorem Same.cell {w w' : World} (h : Same w w') (a : Addr) : w'.cell? a = w.cell? a := by unfold World.cell?; rw [h.heap]
theorem Same.below {w w' : World} (h : Same w w') (B : Nat) : Below B w w' := ⟨h.os, h.tape, h.output, by rw [h.heap]; exact Nat.le_refl _, fun k _ => by rw [h.heap]⟩

theorem Rel.same {g : Gh} {s : St} {w w' : World} (h : Rel g s w) (e : Same w w') : Ext g w g w' ∧ Rel g s w' := by
  have ext : Ext g w g w' := ⟨rfl, e.below _, fun _ h => h, fun _ _ => rfl, fun _ _ h => h, fun _ _ _ h => h, fun b j _ => e.cell _, fun _ h => h, fun _ _ => .inl rfl⟩
  refine ⟨ext, by rw [e.heap]; exact h.top, fun i o hi => ?_, h.used, h.inj, h.free, fun t n ht => ?_, h.tused, h.tinj, h.apart, by rw [e.heap]; exact h.fixs⟩
  · obtain ⟨h1, h2, h3⟩ := h.objs i o hi
    exact ⟨h1, h2, by rw [e.heap]; exact h3.ext ext⟩
  · obtain ⟨h1, h2, h3⟩ := h.toks t n ht
    exact ⟨h1, h2, h3.old, by rw [e.heap]; exact h3.cells, h3.room, h3.most, h3.spare⟩

/-- One block has come. -/
structure Push (o : Obj) (w w' : World) : Prop where
  heap : w'.heap = w.heap.push o
  os : w'.os = w.os
  tape : w'.tape = w.tape
  output : w'.output = w.output

theorem Push.of {o : Obj} {w w1 w' : World} (h : Same w w1) (k : w' = w1.alloc o) : Push o w w' := by
  subst k; exact ⟨by simp [World.alloc, h.heap], h.os, h.tape, h.output⟩
theorem Push.old {o : Obj} {w w' : World} (h : Push o w w') {k : Nat} (hk : k < w.heap.size) : w'.heap[k]? = w.heap[k]? := by
  rw [h.heap, Array.getElem?_push]; simp [Nat.ne_of_lt hk]
theorem Push.new {o : Obj} {w w' : World} (h : Push o w w') : w'.heap[w.heap.size]? = some o := by rw [h.heap]; simp
theorem Push.size {o : Obj} {w w' : World} (h : Push o w w') : w'.heap.size = w.heap.size + 1 := by rw [h.heap]; simp
theorem Push.below {o : Obj} {w w' : World} (h : Push o w w') {B : Nat} (hB : B ≤ w.heap.size) : Below B w w' :=
  ⟨h.os, h.tape, h.output, by rw [h.size]; omega, fun k hk => h.old (by omega)⟩
theorem Push.cell {o : Obj} {w w' : World} (h : Push o w w') {b j : Nat} (hb : b < w.heap.size) : w'.cell? ⟨b, j, none⟩ = w.cell? ⟨b, j, none⟩ := World.cell?_of_block (h.old hb)

/-- A ghost that says more of new things alone. -/
theorem Rel.pushed {g g' : Gh} {s : St} {w w' : World} {o : Obj} (h : Rel g s w) (p : Push o w w') (hb : g'.base = g.base) (hu : ∀ i, g.use i → g'.use i) (hbl : ∀ i, g.use i → g'.blk i = g.blk i)
    (hf : ∀ b j, b < w.heap.size → (g'.fix b j ↔ g.fix b j)) (ht : ∀ t, g.tuse t → g'.tuse t) (htk : ∀ t, g.tuse t → g'.tok t = g.tok t) : Ext g w g' w' :=
  ⟨hb, p.below h.top, hu, hbl, fun b j hx => (hf b j (h.fixs b j hx)).2 hx, fun b j hlt hx => (hf b j (Nat.lt_of_lt_of_le hlt h.top)).1 hx, fun b j hx => p.cell (h.fixs b j hx), ht, fun t hx => .inl (htk t hx)⟩

theorem TokOk.push {g g' : Gh} {w w' : World} {o : Obj} {i : TokI} (h : TokOk g w i) (p : Push o w w') (hb : g'.base = g.base) (hf : ∀ b j, b < w.heap.size → (g'.fix b j ↔ g.fix b j)) : TokOk g' w' i := by
  obtain ⟨C, T, h1, h2⟩ := h.cells
  have hlt := (Array.getElem?_eq_some_iff.1 h1).1
  exact ⟨by rw [hb]; exact h.old, ⟨C, T, by rw [p.old hlt]; exact h1, h2⟩, h.room, h.most, fun j hj hx => h.spare j hj ((hf _ _ hlt).1 hx)⟩

def Gh.addObj (g : Gh) (i b : Nat) : Gh := { g with use := fun k => g.use k ∨ k = i, blk := fun k => if k = i then b else g.blk k }

/-- A new object. -/
theorem Rel.newObj {g : Gh} {s : St} {w w' : World} {i : Nat} {o : AObj} {ob : Obj} (h : Rel g s w) (hi : s.get i = none) (p : Push ob w w') (ho : ORep g w o (some ob)) :
    Ext g w (g.addObj i w.heap.size) w' ∧ Rel (g.addObj i w.heap.size) (s.add i o) w' ∧ (g.addObj i w.heap.size).use i ∧ (g.addObj i w.heap.size).blk i = w.heap.size := by
  have hnu : ¬ g.use i := fun hu => by have := h.used i hu; rw [hi] at this; cases this
  have hne : ∀ k, g.use k → k ≠ i := fun k hk e => hnu (e ▸ hk)
  have hbl : ∀ k, g.use k → (g.addObj i w.heap.size).blk k = g.blk k := fun k hk => by simp [Gh.addObj, hne k hk]
  have ext : Ext g w (g.addObj i w.heap.size) w' := h.pushed p rfl (fun _ h => .inl h) hbl (fun _ _ _ => Iff.rfl) (fun _ h => h) (fun _ _ => rfl)
  have hget : ∀ k, (s.add i o).get k = if k = i then some o else s.get k := fun k => lookL_insL i o s.objs k
  refine ⟨ext, ⟨by rw [p.size]; exact Nat.le_succ_of_le h.top, fun k x hk => ?_, fun k hk => ?_, fun a b ha hb e => ?_, fun k hk j hf => ?_, fun t m ht => ?_, h.tused, h.tinj, fun k t hk ht => ?_, fun b j hf => by rw [p.size]; exact Nat.lt_succ_of_lt (h.fixs b j hf)⟩, .inr rfl, by simp [Gh.addObj]⟩
  · rw [hget] at hk
    split at hk
    · rename_i e; subst e; cases hk
      refine ⟨.inr rfl, ?_, ?_⟩
      · simp only [Gh.addObj, if_true]; exact h.top
      · simp only [Gh.addObj, if_true]; rw [p.new]; exact ho.ext ext
    · rename_i e
      obtain ⟨h1, h2, h3⟩ := h.objs k x hk
      refine ⟨.inl h1, by rw [hbl k h1]; exact h2, ?_⟩
      rw [hbl k h1, p.old h3.lt]
      exact h3.ext ext
  · rw [hget]; split
    · rfl
    · rename_i e; exact h.used k (hk.resolve_right e)
  · rcases ha with ha | rfl <;> rcases hb with hb | rfl
    · rw [hbl _ ha, hbl _ hb] at e; exact h.inj _ _ ha hb e
    · rw [hbl _ ha] at e; simp only [Gh.addObj, if_true] at e; have := h.blk_lt ha; omega
    · rw [hbl _ hb] at e; simp only [Gh.addObj, if_true] at e; have := h.blk_lt hb; omega
    · rfl
  · rcases hk with hk | rfl
    · rw [hbl _ hk] at hf; exact h.free _ hk j hf
    · simp only [Gh.addObj, if_true] at hf; exact absurd (h.fixs _ _ hf) (Nat.lt_irrefl _)
  · obtain ⟨h1, h2, h3⟩ := h.toks t m ht
    exact ⟨h1, h2, h3.push p rfl (fun _ _ _ => Iff.rfl)⟩
  · rcases hk with hk | rfl
    · rw [hbl _ hk]; exact h.apart _ _ hk ht
    · simp only [Gh.addObj, if_true]; have := h.tok_lt ht; exact fun e => by omega

def Gh.addFix (g : Gh) (b n : Nat) : Gh := { g with fix := fun x j => g.fix x j ∨ x = b ∧ j < n }

/-- A new row that never changes; what lies behind its first cells is nobody's. -/
theorem Rel.newRow {g : Gh} {s : St} {w w' : World} {vs rest : List Value} {T : TypeId} (h : Rel g s w) (p : Push (.cells (vs ++ rest).toArray T (0, 0)) w w') :
    Ext g w (g.addFix w.heap.size vs.length) w' ∧ Rel (g.addFix w.heap.size vs.length) s w' ∧ Row (g.addFix w.heap.size vs.length) w' w.heap.size 0 vs := by
  have hf : ∀ b j, b < w.heap.size → ((g.addFix w.heap.size vs.length).fix b j ↔ g.fix b j) := fun b j hb => ⟨fun h => h.resolve_right (fun h => by omega), .inl⟩
  have ext : Ext g w (g.addFix w.heap.size vs.length) w' := h.pushed p rfl (fun _ h => h) (fun _ _ => rfl) hf (fun _ h => h) (fun _ _ => rfl)
  refine ⟨ext, ⟨by rw [p.size]; exact Nat.le_succ_of_le h.top, fun k x hk => ?_, h.used, h.inj, fun k hk j hx => ?_, fun t m ht => ?_, h.tused, h.tinj, h.apart, fun b j hx => ?_⟩, fun j u hj => ?_⟩
  · obtain ⟨h1, h2, h3⟩ := h.objs k x hk
    refine ⟨h1, h2, ?_⟩
    show ORep _ _ x w'.heap[g.blk k]?
    rw [p.old h3.lt]; exact h3.ext ext
  · exact h.free k hk j ((hf _ _ (h.blk_lt hk)).1 hx)
  · obtain ⟨h1, h2, h3⟩ := h.toks t m ht
    exact ⟨h1, h2, h3.push p rfl hf⟩
  · rw [p.size]
    rcases hx with hx | ⟨rfl, _⟩
    · exact Nat.lt_succ_of_lt (h.fixs b j hx)
    · exact Nat.lt_succ_self _
  · have hlt := (List.getElem?_eq_some_iff.1 hj).1
    refine ⟨?_, .inr ⟨rfl, by omega⟩⟩
    rw [Nat.zero_add, World.cell?, p.new]
    simp [List.getElem?_append_left hlt, hj]

def Gh.addTok (g : Gh) (t : Nat) (i : TokI) : Gh := { g with tuse := fun k => g.tuse k ∨ k = t, tok := fun k => if k = t then i else g.tok k }

/-- The row is the head of a list that may grow. -/
theorem Rel.newTok {g : Gh} {s : St} {w : World} {t : Nat} {i : TokI} (h : Rel g s w) (ht : s.tok t = none) (ok : TokOk g w i) (hobj : ∀ k, g.use k → g.blk k ≠ i.b) (hother : ∀ u, g.tuse u → (g.tok u).b ≠ i.b) :
    Ext g w (g.addTok t i) w ∧ Rel (g.addTok t i) (s.addT t i.n) w := by
  have hnu : ¬ g.tuse t := fun hu => by have := h.tused t hu; rw [ht] at this; cases this
  have hne : ∀ k, g.tuse k → k ≠ t := fun k hk e => hnu (e ▸ hk)
  have htk : ∀ k, g.tuse k → (g.addTok t i).tok k = g.tok k := fun k hk => by simp [Gh.addTok, hne k hk]
  have ext : Ext g w (g.addTok t i) w := ⟨rfl, Below.refl _ _, fun _ h => h, fun _ _ => rfl, fun _ _ h => h, fun _ _ _ h => h, fun _ _ _ => rfl, fun _ h => .inl h, fun k hk => .inl (htk k hk)⟩
  have hget : ∀ k, (s.addT t i.n).tok k = if k = t then some i.n else s.tok k := fun k => lookL_insL t i.n s.toks k
  refine ⟨ext, ⟨h.top, fun k x hk => ?_, h.used, h.inj, h.free, fun k n hk => ?_, fun k hk => ?_, fun a b ha hb e => ?_, fun k u hk hu => ?_, h.fixs⟩⟩
  · obtain ⟨h1, h2, h3⟩ := h.objs k x hk
    exact ⟨h1, h2, h3.ext ext⟩
  · rw [hget] at hk
    split at hk
    · rename_i e; subst e; cases hk
      refine ⟨.inr rfl, by simp [Gh.addTok], ?_⟩
      simp only [Gh.addTok, if_true]
      exact ⟨ok.old, ok.cells, ok.room, ok.most, ok.spare⟩
    · obtain ⟨h1, h2, h3⟩ := h.toks k n hk
      refine ⟨.inl h1, by rw [htk k h1]; exact h2, ?_⟩
      rw [htk k h1]; exact ⟨h3.old, h3.cells, h3.room, h3.most, h3.spare⟩
  · rw [hget]; split
    · rfl
    · rename_i e; exact h.tused k (hk.resolve_right e)
  · rcases ha with ha | rfl <;> rcases hb with hb | rfl
    · rw [htk _ ha, htk _ hb] at e; exact h.tinj _ _ ha hb e
    · rw [htk _ ha] at e; simp only [Gh.addTok, if_true] at e; exact absurd e (hother _ ha)
    · rw [htk _ hb] at e; simp only [Gh.addTok, if_true] at e; exact absurd e.symm (hother _ hb)
    · rfl
  · rcases hu with hu | rfl
    · rw [htk _ hu]; exact h.apart _ _ hk hu
    · simp only [Gh.addTok, if_true]; exact hobj k hk

end Go.Am

set_option linter.unusedVariables false
set_option linter.unusedSimpArgs false
/-!
  THE ABSTRACT MACHINE, part D: a list grows in its place, or in a new one.
-/
namespace Go.Am
open Go Go.RowKit

def Gh.setTok (g : Gh) (t : Nat) (i : TokI) (f : Nat → Nat → Prop) : Gh := { g with tok := fun k => if k = t then i else g.tok k, fix := fun b j => g.fix b j ∨ f b j }

/-- In its place. -/
theorem Rel.growIn {g : Gh} {s : St} {w w' : World} {t k : Nat} {us : List Value} {C C' : Array Value} {T : TypeId} (h : Rel g s w) (ht : g.tuse t)
    (hC : w.heap[(g.tok t).b]? = some (.cells C T (0, 0))) (hb : But (g.tok t).b w w') (hC' : w'.heap[(g.tok t).b]? = some (.cells C' T (0, 0))) (hsz : C'.size = C.size)
    (hl : us.length = k * (g.tok t).size) (hk : (g.tok t).n + k ≤ (g.tok t).cap) (hk0 : 0 < k)
    (hold : ∀ j, j < (g.tok t).o + (g.tok t).n * (g.tok t).size → C'[j]? = C[j]?) (hnew : ∀ j u, us[j]? = some u → C'[(g.tok t).o + (g.tok t).n * (g.tok t).size + j]? = some u) :
    ∃ g', Ext g w g' w' ∧ Rel g' (s.putT t ((g.tok t).n + k)) w' ∧ Row g' w' (g.tok t).b ((g.tok t).o + (g.tok t).n * (g.tok t).size) us ∧
      g'.tuse t ∧ g'.tok t = { g.tok t with n := (g.tok t).n + k } := by
  obtain ⟨i, hi⟩ : ∃ i, i = g.tok t := ⟨_, rfl⟩
  rw [← hi] at hC hb hC' hl hk hold hnew ⊢
  have hok := h.tok_of ht
  rw [← hi] at hok
  obtain ⟨m, hm⟩ := Option.isSome_iff_exists.1 (h.tused t ht)
  have hmul : (i.n + k) * i.size = i.n * i.size + k * i.size := Nat.add_mul _ _ _
  let f : Nat → Nat → Prop := fun b j => b = i.b ∧ i.o + i.n * i.size ≤ j ∧ j < i.o + (i.n + k) * i.size
  have htk : ∀ u, u ≠ t → (g.setTok t { i with n := i.n + k } f).tok u = g.tok u := fun u hu => by simp [Gh.setTok, hu]
  have htt : (g.setTok t { i with n := i.n + k } f).tok t = { i with n := i.n + k } := by simp [Gh.setTok]
  obtain ⟨C0, T0, g1, g2⟩ := hok.cells
  rw [hC] at g1; cases g1
  have hblt := (Array.getElem?_eq_some_iff.1 hC).1
  have hcell : ∀ b j, g.fix b j → w'.cell? ⟨b, j, none⟩ = w.cell? ⟨b, j, none⟩ := fun b j hf => by
    by_cases e : b = i.b
    · subst e
      have hlt : j < i.o + i.n * i.size := by
        rcases Nat.lt_or_ge j (i.o + i.n * i.size) with h1 | h1
        · exact h1
        · exact absurd hf (hok.spare j h1)
      simp [World.cell?, hC, hC', hold j hlt]
    · exact hb.cell (h.fixs b j hf) e
  have ext : Ext g w (g.setTok t { i with n := i.n + k } f) w' := by
    refine ⟨rfl, hb.below h.top hok.old, fun _ h => h, fun _ _ => rfl, fun _ _ h => .inl h, fun b j hlt hf => ?_, hcell, fun _ h => h, fun u hu => ?_⟩
    · rcases hf with hf | ⟨rfl, _⟩
      · exact hf
      · exact absurd hlt (Nat.not_lt.2 hok.old)
    · by_cases e : u = t
      · subst e; right; rw [htt, ← hi]; show i.n < i.n + k; omega
      · left; exact htk u e
  have hget : ∀ u, (s.putT t (i.n + k)).tok u = if u = t then some (i.n + k) else s.tok u := fun u => lookL_putL hm u
  refine ⟨_, ext, ⟨Nat.le_trans h.top hb.size, fun x o hx => ?_, h.used, h.inj, fun x hx j hf => ?_, fun u n hu => ?_, fun u hu => ?_, fun a b ha hb' e => ?_, fun x u hx hu => ?_, fun b j hf => ?_⟩, fun j u hj => ?_, ht, htt⟩
  · obtain ⟨h1, h2, h3⟩ := h.objs x o hx
    refine ⟨h1, h2, ?_⟩
    show ORep _ _ o w'.heap[g.blk x]?
    rw [hb.block _ h3.lt (fun e => h.apart x t h1 ht (by rw [← hi]; exact e))]
    exact h3.ext ext
  · rcases hf with hf | ⟨e, _⟩
    · exact h.free x hx j hf
    · exact h.apart x t hx ht (by rw [← hi]; exact e)
  · rw [hget] at hu
    split at hu
    · rename_i e; subst e; cases hu
      refine ⟨ht, by rw [htt], ?_⟩
      rw [htt]
      refine ⟨hok.old, ⟨C', T, hC', by rw [hsz]; exact g2⟩, hk, hok.most, fun j hj hf => ?_⟩
      rcases hf with hf | ⟨_, _, h2⟩
      · refine hok.spare j (Nat.le_trans ?_ hj) hf
        show i.o + i.n * i.size ≤ i.o + (i.n + k) * i.size
        omega
      · have : i.o + (i.n + k) * i.size ≤ j := hj
        omega
    · rename_i e
      obtain ⟨h1, h2, h3⟩ := h.toks u n hu
      have hne : (g.tok u).b ≠ i.b := fun e2 => e (h.tinj u t h1 ht (by rw [← hi]; exact e2))
      refine ⟨h1, by rw [htk u e]; exact h2, ?_⟩
      rw [htk u e]
      refine ⟨h3.old, ?_, h3.room, h3.most, fun j hj hf => ?_⟩
      · rw [hb.block _ (h.tok_lt h1) hne]; exact h3.cells
      · rcases hf with hf | ⟨e2, _⟩
        · exact h3.spare j hj hf
        · exact hne e2
  · rw [hget]; split
    · rfl
    · exact h.tused u hu
  · by_cases ea : a = t <;> by_cases eb : b = t
    · rw [ea, eb]
    · subst ea; rw [htt, htk b eb] at e; exact h.tinj a b ha hb' (by rw [← hi]; exact e)
    · subst eb; rw [htt, htk a ea] at e; exact h.tinj a b ha hb' (by rw [← hi]; exact e)
    · rw [htk a ea, htk b eb] at e; exact h.tinj a b ha hb' e
  · by_cases e : u = t
    · subst e; rw [htt]; have := h.apart x u hx hu; rw [← hi] at this; exact this
    · rw [htk u e]; exact h.apart x u hx hu
  · rcases hf with hf | ⟨rfl, _⟩
    · exact Nat.lt_of_lt_of_le (h.fixs b j hf) hb.size
    · exact Nat.lt_of_lt_of_le hblt hb.size
  · have hlt := (List.getElem?_eq_some_iff.1 hj).1
    refine ⟨?_, .inr ⟨rfl, Nat.le_add_right _ _, ?_⟩⟩
    · simp only [World.cell?, hC']
      simpa using hnew j u hj
    · omega

/-- In a new place. -/
theorem Rel.growOut {g : Gh} {s : St} {w w' : World} {t k cap : Nat} {vs us rest : List Value} {T : TypeId} (h : Rel g s w) (ht : g.tuse t) (p : Push (.cells (vs ++ us ++ rest).toArray T (0, 0)) w w')
    (hv : vs.length = (g.tok t).n * (g.tok t).size) (hl : us.length = k * (g.tok t).size) (hr : (vs ++ us ++ rest).length = cap * (g.tok t).size) (hk : (g.tok t).n + k ≤ cap) (hm : cap ≤ maxLen) (hk0 : 0 < k) :
    ∃ g', Ext g w g' w' ∧ Rel g' (s.putT t ((g.tok t).n + k)) w' ∧ Row g' w' w.heap.size 0 (vs ++ us) ∧
      g'.tuse t ∧ g'.tok t = { b := w.heap.size, o := 0, cap := cap, size := (g.tok t).size, n := (g.tok t).n + k } := by
  obtain ⟨i, hi⟩ : ∃ i, i = g.tok t := ⟨_, rfl⟩
  rw [← hi] at hv hl hr hk ⊢
  obtain ⟨m, hm'⟩ := Option.isSome_iff_exists.1 (h.tused t ht)
  have hmul : (i.n + k) * i.size = i.n * i.size + k * i.size := Nat.add_mul _ _ _
  obtain ⟨N, hN⟩ : ∃ N : TokI, N = { b := w.heap.size, o := 0, cap := cap, size := i.size, n := i.n + k } := ⟨_, rfl⟩
  rw [← hN]
  let f : Nat → Nat → Prop := fun b j => b = w.heap.size ∧ j < (vs ++ us).length
  have hf : ∀ b j, b < w.heap.size → ((g.setTok t N f).fix b j ↔ g.fix b j) := fun b j hb => ⟨fun h => h.resolve_right (fun h => by have := h.1; omega), .inl⟩
  have htk : ∀ u, u ≠ t → (g.setTok t N f).tok u = g.tok u := fun u hu => by simp [Gh.setTok, hu]
  have htt : (g.setTok t N f).tok t = N := by simp [Gh.setTok]
  have ext : Ext g w (g.setTok t N f) w' := by
    refine ⟨rfl, p.below h.top, fun _ h => h, fun _ _ => rfl, fun _ _ h => .inl h, fun b j hlt hx => (hf b j (Nat.lt_of_lt_of_le hlt h.top)).1 hx, fun b j hx => p.cell (h.fixs b j hx), fun _ h => h, fun u hu => ?_⟩
    by_cases e : u = t
    · subst e; right; rw [htt, ← hi, hN]; show i.n < i.n + k; omega
    · left; exact htk u e
  have hget : ∀ u, (s.putT t (i.n + k)).tok u = if u = t then some (i.n + k) else s.tok u := fun u => lookL_putL hm' u
  refine ⟨_, ext, ⟨by rw [p.size]; exact Nat.le_succ_of_le h.top, fun x o hx => ?_, h.used, h.inj, fun x hx j hx' => ?_, fun u n hu => ?_, fun u hu => ?_, fun a b ha hb' e => ?_, fun x u hx hu => ?_, fun b j hx => ?_⟩, fun j u hj => ?_, ht, htt⟩
  · obtain ⟨h1, h2, h3⟩ := h.objs x o hx
    refine ⟨h1, h2, ?_⟩
    show ORep _ _ o w'.heap[g.blk x]?
    rw [p.old h3.lt]; exact h3.ext ext
  · exact h.free x hx j ((hf _ _ (h.blk_lt hx)).1 hx')
  · rw [hget] at hu
    split at hu
    · rename_i e; subst e; cases hu
      refine ⟨ht, by rw [htt, hN], ?_⟩
      rw [htt, hN]
      refine ⟨h.top, ⟨_, T, p.new, ?_⟩, hk, hm, fun j hj hx => ?_⟩
      · simp only [List.size_toArray]; rw [hr]; omega
      · rcases hx with hx | ⟨_, h2⟩
        · exact absurd (h.fixs _ _ hx) (Nat.lt_irrefl _)
        · have h3 : 0 + (i.n + k) * i.size ≤ j := hj
          rw [List.length_append] at h2
          omega
    · rename_i e
      obtain ⟨h1, h2, h3⟩ := h.toks u n hu
      refine ⟨h1, by rw [htk u e]; exact h2, ?_⟩
      rw [htk u e]
      exact h3.push p rfl hf
  · rw [hget]; split
    · rfl
    · exact h.tused u hu
  · by_cases ea : a = t <;> by_cases eb : b = t
    · rw [ea, eb]
    · subst ea; rw [htt, htk b eb, hN] at e; have := h.tok_lt hb'; simp only at e; omega
    · subst eb; rw [htt, htk a ea, hN] at e; have := h.tok_lt ha; simp only at e; omega
    · rw [htk a ea, htk b eb] at e; exact h.tinj a b ha hb' e
  · by_cases e : u = t
    · subst e; rw [htt, hN]; have := h.blk_lt hx; intro e2; have e3 : g.blk x = w.heap.size := e2; omega
    · rw [htk u e]; exact h.apart x u hx hu
  · rw [p.size]
    rcases hx with hx | ⟨rfl, _⟩
    · exact Nat.lt_succ_of_lt (h.fixs b j hx)
    · exact Nat.lt_succ_self _
  · have hlt := (List.getElem?_eq_some_iff.1 hj).1
    refine ⟨?_, .inr ⟨rfl, by omega⟩⟩
    rw [Nat.zero_add, World.cell?, p.new]
    simp only [List.getElem?_toArray, Option.isSome_none, Bool.false_eq_true, if_false]
    rw [List.getElem?_append_left (by simpa using hlt)]
    simpa using hj

/-- A new list that may grow. -/
theorem Rel.fresh {g : Gh} {s : St} {w w' : World} {t n cap size : Nat} {vs rest : List Value} {T : TypeId} (h : Rel g s w) (ht : s.tok t = none) (p : Push (.cells (vs ++ rest).toArray T (0, 0)) w w')
    (hv : vs.length = n * size) (hr : (vs ++ rest).length = cap * size) (hk : n ≤ cap) (hm : cap ≤ maxLen) :
    ∃ g', Ext g w g' w' ∧ Rel g' (s.addT t n) w' ∧ Row g' w' w.heap.size 0 vs ∧ g'.tuse t ∧ g'.tok t = { b := w.heap.size, o := 0, cap := cap, size := size, n := n } := by
  obtain ⟨e1, r1, row⟩ := h.newRow p
  have ok : TokOk (g.addFix w.heap.size vs.length) w' { b := w.heap.size, o := 0, cap := cap, size := size, n := n } := by
    refine ⟨h.top, ⟨_, T, p.new, ?_⟩, hk, hm, fun j hj hx => ?_⟩
    · simp only [List.size_toArray]; rw [hr]; omega
    · rcases hx with hx | ⟨_, h2⟩
      · exact absurd (h.fixs _ _ hx) (Nat.lt_irrefl _)
      · have h3 : 0 + n * size ≤ j := hj
        omega
  obtain ⟨e2, r2⟩ := r1.newTok ht ok (fun k hk e => by have := h.blk_lt hk; have e3 : g.blk k = w.heap.size := e; omega) (fun u hu e => by have := h.tok_lt hu; have e3 : (g.tok u).b = w.heap.size := e; omega)
  exact ⟨_, e1.trans e2, r2, row.ext e2, .inr rfl, by simp [Gh.addTok]⟩

end Go.Am

set_option linter.unusedVariables false
set_option linter.unusedSimpArgs false
/-!
  THE ABSTRACT MACHINE, part E: operations that ask nothing of the world.
-/
namespace Go.Am
open Go Go.RowKit

/-- What a computation comes to that asks nothing of the world. -/
def pureOf (P : Program) {α : Type} : Sem α → Option α
  | .pure a => some a
  | .program k => pureOf P (k P)
  | _ => none

def Yld {α : Type} (P : Program) (x : Sem α) (v : α) : Prop := ∀ w, x.run P w = .ok v w

theorem pureOf_run {P : Program} {α : Type} : ∀ {x : Sem α} {v : α}, pureOf P x = some v → Yld P x v
  | .pure a, v, h => fun w => by simp only [pureOf, Option.some.injEq] at h; subst h; rfl
  | .program k, v, h => fun w => pureOf_run (x := k P) h w
  | .load _ _ _, _, h => by cases h
  | .store _ _ _ _, _, h => by cases h
  | .new _ _, _, h => by cases h
  | .shape _ _, _, h => by cases h
  | .freeze _ _ _, _, h => by cases h
  | .frozen _ _, _, h => by cases h
  | .getObj _ _, _, h => by cases h
  | .setObj _ _ _, _, h => by cases h
  | .choose _ _, _, h => by cases h
  | .sys _ _, _, h => by cases h
  | .mark _ _, _, h => by cases h
  | .halt _, _, h => by cases h

theorem Yld.bind {α β : Type} {P : Program} {x : Sem α} {f : α → Sem β} {a : α} {b : β} (h : Yld P x a) (k : Yld P (f a) b) : Yld P (x >>= f) b := fun w => by
  rw [Sem.run_bind, h w]; exact k w
theorem Yld.pure {α : Type} {P : Program} (a : α) : Yld P (Pure.pure a : Sem α) a := fun _ => rfl
theorem yld_underlying {P : Program} {t : TypeId} {d : TypeDesc} (h : P.underlying t = some d) : Yld P (underlying t) d := run_underlying h

def szOf (P : Program) (t : TypeId) : Option Nat := (P.info? t).map (·.size)
theorem yld_typeInfo {P : Program} {t : TypeId} {i : TypeInfo} (h : P.info? t = some i) : Yld P (typeInfo t) i := fun w => by simp [typeInfo, h]
theorem yld_sizeOf {P : Program} {t : TypeId} {k : Nat} (h : szOf P t = some k) : Yld P (sizeOf t) k := fun w => by
  unfold szOf at h
  obtain ⟨i, hi, rfl⟩ := Option.map_eq_some_iff.1 h
  simp [sizeOf, typeInfo, hi]

def isAggO (P : Program) (t : TypeId) : Option Bool := match P.underlying t with
  | some (.struct _) => some true
  | some (.array _ _) => some true
  | some _ => some false
  | none => none
theorem yld_isAgg {P : Program} {t : TypeId} {b : Bool} (h : isAggO P t = some b) : Yld P (isAgg t) b := fun w => by
  unfold isAggO at h
  unfold isAgg
  cases hu : P.underlying t with
  | none => rw [hu] at h; cases h
  | some d =>
    rw [hu] at h
    rw [Sem.run_bind, run_underlying hu w]
    cases d <;> simp_all

/-- Some cells out of a row, as a value of a type. -/
def partA (P : Program) (t : TypeId) (cs : List AV) (off : Nat) : Option AV :=
  match isAggO P t with
  | some true => match szOf P t with
    | some k => some (.agg ((cs.drop off).take k))
    | none => none
  | some false => cs[off]?
  | none => none

theorem part_sound {P : Program} {g : Gh} {w : World} {t : TypeId} {cs : List AV} {vs : List Value} {off : Nat} {r : AV} (h : partA P t cs off = some r) (hr : RepAll g w cs vs) :
    ∃ v, Yld P (part t vs.toArray off) v ∧ Rep g w r v := by
  unfold partA at h
  split at h
  · rename_i ha
    split at h
    · rename_i k hk
      cases h
      refine ⟨.agg ((vs.drop off).take k).toArray, ?_, by simp only [Rep]; exact ⟨_, rfl, (hr.drop off).take k⟩⟩
      unfold part
      refine (yld_isAgg ha).bind ?_
      simp only [if_true]
      refine (yld_sizeOf hk).bind ?_
      have : (vs.toArray.extract off (off + k)) = ((vs.drop off).take k).toArray := by
        simp [List.extract_toArray, List.extract_eq_take_drop]
      rw [this]
      exact Yld.pure _
    · cases h
  · rename_i ha
    obtain ⟨v, hv, hrv⟩ := hr.get h
    refine ⟨v, ?_, hrv⟩
    unfold part
    refine (yld_isAgg ha).bind ?_
    have : vs.toArray[off]? = some v := by simpa using hv
    simp only [Bool.false_eq_true, if_false, this]
    exact Yld.pure _
  · cases h

end Go.Am

set_option linter.unusedVariables false
set_option linter.unusedSimpArgs false
/-!
  THE ABSTRACT MACHINE, part F: operations that ask nothing of the world, one by one.
-/
namespace Go.Am
open Go Go.RowKit

theorem blt_lt {i n : Nat} (h : Nat.blt i n = true) : i < n := by rw [Nat.blt_eq] at h; exact h

def asN : AV → Option Nat
  | .val (.int _ n) => match n with
    | .ofNat k => some k
    | _ => none
  | _ => none
theorem asN_of {g : Gh} {w : World} {a : AV} {v : Value} {n : Nat} (h : asN a = some n) (hr : Rep g w a v) : ∃ k, v = .int k (n : Int) := by
  unfold asN at h
  split at h
  · rename_i k m
    split at h
    · cases h; simp only [Rep] at hr; exact ⟨k, hr⟩
    · cases h
  · cases h

/-- A field's address. -/
def fieldAddrA (P : Program) (t : TypeId) (x : AV) (i : Nat) : Option AV :=
  match P.underlying t with
  | some (.struct fs) => match fs[i]? with
    | some f => match szOf P f.type with
      | some (_ + 1) => match x with
        | .ptr id off => some (.ptr id (off + f.offset))
        | .rptr cs off => some (.rptr cs (off + f.offset))
        | _ => none
      | _ => none
    | none => none
  | _ => none

theorem yld_fieldPlace {P : Program} {b o n : Nat} {f : Field} (h : szOf P f.type = some (n + 1)) : Yld P (fieldPlace ⟨b, o, none⟩ f) ⟨b, o + f.offset, none⟩ := by
  unfold fieldPlace
  refine (yld_sizeOf h).bind ?_
  simp only [Nat.add_one_ne_zero, if_false, Addr.add_lit]
  exact Yld.pure _

theorem yld_fieldAt {P : Program} {t : TypeId} {fs : Array Field} {f : Field} {i n b o : Nat} (hu : P.underlying t = some (.struct fs)) (hf : fs[i]? = some f) (hn : szOf P f.type = some (n + 1)) :
    Yld P (Instr.fieldAt t (.pointer (some ⟨b, o, none⟩)) i) (.pointer (some ⟨b, o + f.offset, none⟩)) := by
  unfold Instr.fieldAt
  refine (yld_underlying hu).bind ?_
  simp only [hf, Instr.sureAddr]
  refine (Yld.pure _).bind ((yld_fieldPlace hn).bind (Yld.pure _))

theorem fieldAddr_sound {P : Program} {g : Gh} {w : World} {t : TypeId} {x r : AV} {i : Nat} {v : Value} (h : fieldAddrA P t x i = some r) (hr : Rep g w x v) :
    ∃ u, Yld P (Instr.fieldAt t v i) u ∧ Rep g w r u := by
  unfold fieldAddrA at h
  split at h
  · rename_i fs hu
    split at h
    · rename_i f hf
      split at h
      · rename_i n hn
        split at h
        · cases h
          simp only [Rep] at hr
          obtain ⟨h1, rfl⟩ := hr
          exact ⟨_, yld_fieldAt hu hf hn, by simp [Rep, h1]⟩
        · cases h
          simp only [Rep] at hr
          obtain ⟨b, o, vs, rfl, h2, h3⟩ := hr
          exact ⟨_, yld_fieldAt hu hf hn, by simp only [Rep]; exact ⟨b, o, vs, by rw [Nat.add_assoc], h2, h3⟩⟩
        · cases h
      · cases h
    · cases h
  · cases h

/-- A field of a value. -/
def fieldA (P : Program) (t : TypeId) (x : AV) (i : Nat) : Option AV :=
  match P.underlying t with
  | some (.struct fs) => match fs[i]? with
    | some f => match x with
      | .agg cs => partA P f.type cs f.offset
      | _ => none
    | none => none
  | _ => none
theorem field_sound {P : Program} {g : Gh} {w : World} {t : TypeId} {x r : AV} {i : Nat} {v : Value} (h : fieldA P t x i = some r) (hr : Rep g w x v) :
    ∃ u, Yld P (Instr.field t v i) u ∧ Rep g w r u := by
  unfold fieldA at h
  split at h
  · rename_i fs hu
    split at h
    · rename_i f hf
      split at h
      · simp only [Rep] at hr
        obtain ⟨vs, rfl, h2⟩ := hr
        obtain ⟨u, hy, hru⟩ := part_sound h h2
        refine ⟨u, ?_, hru⟩
        unfold Instr.field
        refine (yld_underlying hu).bind ?_
        simp only [hf, asAgg]
        exact (Yld.pure _).bind hy
      · cases h
    · cases h
  · cases h

/-- An element's address. -/
def indexAddrA (P : Program) (t : TypeId) (x ix : AV) : Option AV :=
  match asN ix with
  | some i => match P.underlying t with
    | some (.slice elem) => match szOf P elem with
      | some size => match x with
        | .imm n cs _ => if Nat.blt i n then some (.rptr cs (i * size)) else none
        | .mut id off n _ => if Nat.blt i n then some (.ptr id (off + i * size)) else none
        | _ => none
      | none => none
    | some (.array n elem) => match szOf P elem with
      | some size => if Nat.blt i n then
          match x with
          | .ptr id off => some (.ptr id (off + i * size))
          | .rptr cs off => some (.rptr cs (off + i * size))
          | _ => none
        else none
      | none => none
    | _ => none
  | none => none

theorem yld_indexAt_slice {P : Program} {t elem : TypeId} {size i n cap b o : Nat} {k : IntKind} (hu : P.underlying t = some (.slice elem)) (hs : szOf P elem = some size) (hi : i < n) :
    Yld P (Instr.indexAt t (.slice (some ⟨b, o, none⟩) n cap) (.int k i)) (.pointer (some ⟨b, o + i * size, none⟩)) := by
  intro w
  have h1 := yld_sizeOf hs w
  have h2 : (0 : Int) ≤ (i : Int) ∧ (i : Int) < (n : Int) := ⟨by omega, by omega⟩
  simp [Instr.indexAt, asIntOf, run_underlying hu, h1, hi, Addr.add_lit]
theorem yld_indexAt_array {P : Program} {t elem : TypeId} {size i n b o : Nat} {k : IntKind} (hu : P.underlying t = some (.array n elem)) (hs : szOf P elem = some size) (hi : i < n) :
    Yld P (Instr.indexAt t (.pointer (some ⟨b, o, none⟩)) (.int k i)) (.pointer (some ⟨b, o + i * size, none⟩)) := by
  intro w
  have h1 := yld_sizeOf hs w
  simp [Instr.indexAt, asIntOf, run_underlying hu, h1, hi, Addr.add_lit, Instr.sureAddr]

theorem indexAddr_sound {P : Program} {g : Gh} {w : World} {t : TypeId} {x ix r : AV} {v vi : Value} (h : indexAddrA P t x ix = some r) (hr : Rep g w x v) (hi : Rep g w ix vi) :
    ∃ u, Yld P (Instr.indexAt t v vi) u ∧ Rep g w r u := by
  unfold indexAddrA at h
  split at h
  · rename_i i hn
    obtain ⟨k, rfl⟩ := asN_of hn hi
    split at h
    · rename_i elem hu
      split at h
      · rename_i size hs
        split at h
        · split at h
          · rename_i hlt
            cases h
            have hlt := blt_lt hlt
            simp only [Rep] at hr
            obtain ⟨b, o, cap, vs, rfl, h1, h2, h3, h4, h5⟩ := hr
            exact ⟨_, yld_indexAt_slice hu hs hlt, by simp only [Rep]; exact ⟨b, o, vs, rfl, h3, h4⟩⟩
          · cases h
        · split at h
          · rename_i hlt
            cases h
            have hlt := blt_lt hlt
            simp only [Rep] at hr
            obtain ⟨h1, rfl, h3⟩ := hr
            exact ⟨_, yld_indexAt_slice hu hs hlt, by simp [Rep, h1]⟩
          · cases h
        · cases h
      · cases h
    · rename_i n elem hu
      split at h
      · rename_i size hs
        split at h
        · rename_i hlt
          have hlt := blt_lt hlt
          split at h
          · cases h
            simp only [Rep] at hr
            obtain ⟨h1, rfl⟩ := hr
            exact ⟨_, yld_indexAt_array hu hs hlt, by simp [Rep, h1]⟩
          · cases h
            simp only [Rep] at hr
            obtain ⟨b, o, vs, rfl, h3, h4⟩ := hr
            exact ⟨_, yld_indexAt_array hu hs hlt, by simp only [Rep]; exact ⟨b, o, vs, by rw [Nat.add_assoc], h3, h4⟩⟩
          · cases h
        · cases h
      · cases h
    · cases h
  · cases h

/-- An element of a value. -/
def indexA (P : Program) (t : TypeId) (x ix : AV) : Option AV :=
  match asN ix with
  | some i => match P.underlying t with
    | some .string => match x with
      | .val (.string b) => match b.data[i]? with
        | some c => some (.val (.int .u8 c.toNat))
        | none => none
      | _ => none
    | some (.array n elem) => match szOf P elem with
      | some size => match x with
        | .agg cs => if Nat.blt i n then partA P elem cs (i * size) else none
        | _ => none
      | none => none
    | _ => none
  | none => none
theorem index_sound {P : Program} {g : Gh} {w : World} {t : TypeId} {x ix r : AV} {v vi : Value} (h : indexA P t x ix = some r) (hr : Rep g w x v) (hi : Rep g w ix vi) :
    ∃ u, Yld P (Instr.index t v vi) u ∧ Rep g w r u := by
  unfold indexA at h
  split at h
  · rename_i i hn
    obtain ⟨k, rfl⟩ := asN_of hn hi
    split at h
    · rename_i hu
      split at h
      · rename_i b
        split at h
        · rename_i c hc
          cases h
          simp only [Rep] at hr
          subst hr
          refine ⟨.int .u8 c.toNat, fun w' => ?_, by simp only [Rep]⟩
          have : b[i]? = some c := by
            simp only [Array.getElem?_eq_some_iff] at hc
            obtain ⟨hlt, hc⟩ := hc
            have hlt' : i < b.size := hlt
            rw [getElem?_pos b i hlt']
            rw [← hc]; rfl
          simp [Instr.index, asIntOf, run_underlying hu, this]
        · cases h
      · cases h
    · rename_i n elem hu
      split at h
      · rename_i size hs
        split at h
        · split at h
          · rename_i hlt
            have hlt := blt_lt hlt
            simp only [Rep] at hr
            obtain ⟨vs, rfl, h2⟩ := hr
            obtain ⟨u, hy, hru⟩ := part_sound h h2
            refine ⟨u, fun w' => ?_, hru⟩
            have h1 := yld_sizeOf hs w'
            simp [Instr.index, asIntOf, run_underlying hu, h1, hlt, hy w']
          · cases h
        · cases h
      · cases h
    · cases h
  · cases h

def extractA (x : AV) (i : Nat) : Option AV :=
  match x with
  | .tuple vs => vs[i]?
  | _ => none
theorem extract_sound {P : Program} {g : Gh} {w : World} {x r : AV} {i : Nat} {v : Value} (h : extractA x i = some r) (hr : Rep g w x v) :
    ∃ u, Yld P (Instr.extract v i) u ∧ Rep g w r u := by
  unfold extractA at h
  split at h
  · simp only [Rep] at hr
    obtain ⟨vs, rfl, h2⟩ := hr
    obtain ⟨u, hu, hru⟩ := h2.get h
    refine ⟨u, fun w' => ?_, hru⟩
    simp [Instr.extract, hu]
  · cases h

/-- Which are nil? -/
def isNilA : AV → Option Bool
  | .val (.pointer none) => some true
  | .val (.slice none _ _) => some true
  | .val (.map none) => some true
  | .val .nilFunc => some true
  | .val .nilIface => some true
  | .ptr _ _ => some false
  | .rptr _ _ => some false
  | .imm _ _ _ => some false
  | .mut _ _ _ _ => some false
  | .map _ => some false
  | .func _ _ _ => some false
  | .iface _ _ => some false
  | _ => none

def lenA : AV → Option Nat
  | .val (.slice none n _) => some n
  | .val (.string b) => some b.size
  | .imm n _ _ => some n
  | .mut _ _ n _ => some n
  | _ => none

def makeIfaceA (P : Program) (t : TypeId) (x : AV) : Option AV :=
  match P.underlying t with
  | some (.interface _) => none
  | some _ => some (.iface t x)
  | none => none
theorem makeIface_sound {P : Program} {g : Gh} {w : World} {t : TypeId} {x r : AV} {v : Value} (h : makeIfaceA P t x = some r) (hr : Rep g w x v) :
    ∃ u, Yld P (Instr.makeInterface t v) u ∧ Rep g w r u := by
  unfold makeIfaceA at h
  split at h
  · cases h
  · rename_i d hne hu
    cases h
    refine ⟨.iface t v, fun w' => ?_, by simp only [Rep]; exact ⟨v, rfl, hr⟩⟩
    cases d <;> simp_all [Instr.makeInterface, run_underlying hu]
  · cases h

def lenOpA (P : Program) (t : TypeId) (x : AV) : Option AV :=
  match P.underlying t with
  | some (.slice _) => match x with
    | .val (.slice none n _) => some (.val (goInt n))
    | .imm n _ _ => some (.val (goInt n))
    | .mut _ _ n _ => some (.val (goInt n))
    | _ => none
  | some .string => match x with
    | .val (.string b) => some (.val (goInt b.size))
    | _ => none
  | some (.array n _) => some (.val (goInt n))
  | _ => none
theorem len_sound {P : Program} {g : Gh} {w : World} {t ty : TypeId} {x r : AV} {v : Value} (h : lenOpA P t x = some r) (hr : Rep g w x v) :
    ∃ u, Yld P (Builtin.len_ #[t] ty #[v]) u ∧ Rep g w r u := by
  unfold lenOpA at h
  split at h
  · rename_i e hu
    split at h
    · rename_i n c
      cases h
      simp only [Rep] at hr; subst hr
      exact ⟨goInt n, fun w' => by simp [Builtin.len_, run_underlying hu], by simp only [Rep]⟩
    · rename_i n cs c
      cases h
      simp only [Rep] at hr
      obtain ⟨b, o, cap, vs, rfl, _⟩ := hr
      exact ⟨goInt n, fun w' => by simp [Builtin.len_, run_underlying hu], by simp only [Rep]⟩
    · rename_i i off n cap
      cases h
      simp only [Rep] at hr
      obtain ⟨_, rfl, _⟩ := hr
      exact ⟨goInt n, fun w' => by simp [Builtin.len_, run_underlying hu], by simp only [Rep]⟩
    · cases h
  · rename_i hu
    split at h
    · rename_i b
      cases h
      simp only [Rep] at hr; subst hr
      exact ⟨goInt b.size, fun w' => by simp [Builtin.len_, run_underlying hu], by simp only [Rep]⟩
    · cases h
  · rename_i n e hu
    cases h
    exact ⟨goInt n, fun w' => by simp [Builtin.len_, run_underlying hu], by simp only [Rep]⟩
  · cases h

end Go.Am

set_option linter.unusedVariables false
set_option linter.unusedSimpArgs false
/-!
  THE ABSTRACT MACHINE, part G: more operations that ask nothing of the world: cells, literals.
-/
namespace Go.Am
open Go Go.RowKit

def setAt (l : List AV) (off : Nat) (vs : List AV) : List AV := l.take off ++ vs ++ l.drop (off + vs.length)

theorem setAt_rep {g : Gh} {w : World} {cs us : List AV} {vs ws : List Value} (h : RepAll g w cs vs) (k : RepAll g w us ws) (off : Nat) :
    RepAll g w (setAt cs off us) (vs.take off ++ ws ++ vs.drop (off + ws.length)) := by
  unfold setAt
  rw [← k.length]
  exact ((h.take off).append k).append (h.drop _)

/-- The cells that a value takes up. -/
def cellsA : AV → List AV
  | .agg cs => cs
  | .val v => v.cells.toList.map .val
  | a => [a]

theorem cellsA_rep {g : Gh} {w : World} {a : AV} {v : Value} (h : Rep g w a v) : RepAll g w (cellsA a) v.cells.toList := by
  cases a with
  | agg cs => simp only [Rep] at h; obtain ⟨vs, rfl, h⟩ := h; exact h
  | val u => simp only [Rep] at h; subst h; exact repAll_vals _
  | ptr => have h2 := h; simp only [Rep] at h; obtain ⟨_, rfl⟩ := h; simp only [cellsA, RepAll, Value.cells]; exact ⟨_, [], rfl, h2, rfl⟩
  | rptr => have h2 := h; simp only [Rep] at h; obtain ⟨_, _, _, rfl, _⟩ := h; simp only [cellsA, RepAll, Value.cells]; exact ⟨_, [], rfl, h2, rfl⟩
  | imm => have h2 := h; simp only [Rep] at h; obtain ⟨_, _, _, _, rfl, _⟩ := h; simp only [cellsA, RepAll, Value.cells]; exact ⟨_, [], rfl, h2, rfl⟩
  | «mut» => have h2 := h; simp only [Rep] at h; obtain ⟨_, rfl, _⟩ := h; simp only [cellsA, RepAll, Value.cells]; exact ⟨_, [], rfl, h2, rfl⟩
  | map => have h2 := h; simp only [Rep] at h; obtain ⟨_, rfl⟩ := h; simp only [cellsA, RepAll, Value.cells]; exact ⟨_, [], rfl, h2, rfl⟩
  | func => have h2 := h; simp only [Rep] at h; obtain ⟨_, _, rfl, _⟩ := h; simp only [cellsA, RepAll, Value.cells]; exact ⟨_, [], rfl, h2, rfl⟩
  | yield => have h2 := h; simp only [Rep] at h; obtain ⟨_, rfl⟩ := h; simp only [cellsA, RepAll, Value.cells]; exact ⟨_, [], rfl, h2, rfl⟩
  | iface => have h2 := h; simp only [Rep] at h; obtain ⟨_, rfl, _⟩ := h; simp only [cellsA, RepAll, Value.cells]; exact ⟨_, [], rfl, h2, rfl⟩
  | tuple => have h2 := h; simp only [Rep] at h; obtain ⟨_, rfl, _⟩ := h; simp only [cellsA, RepAll, Value.cells]; exact ⟨_, [], rfl, h2, rfl⟩

def PRep (g : Gh) (w : World) : List (Nat × AV) → List (Nat × Value) → Prop
  | [], qs => qs = []
  | (i, a) :: r, qs => ∃ v q, qs = (i, v) :: q ∧ Rep g w a v ∧ PRep g w r q

def fillA (place : Nat → Option (Nat × Nat)) (cells : List AV) : List (Nat × AV) → Option (List AV)
  | [] => some cells
  | (i, a) :: rest => match place i with
    | none => none
    | some (off, size) => if Nat.beq (cellsA a).length size then (if Nat.ble (off + size) cells.length then fillA place (setAt cells off (cellsA a)) rest else none) else none

theorem foldl_set (vs : List Value) : ∀ (k off : Nat) (cells : Array Value), off + k + vs.length ≤ cells.size →
    ((vs.zipIdx k).foldl (fun cs (p : Value × Nat) => cs.setIfInBounds (off + p.2) p.1) cells).toList = cells.toList.take (off + k) ++ vs ++ cells.toList.drop (off + k + vs.length) := by
  induction vs with
  | nil => intro k off cells h; simp
  | cons c r ih =>
    intro k off cells h
    simp only [List.zipIdx_cons, List.foldl_cons, List.length_cons] at h ⊢
    rw [ih (k + 1) off _ (by rw [Array.size_setIfInBounds]; omega)]
    apply List.ext_getElem?
    intro j
    simp only [Array.toList_setIfInBounds, List.append_assoc, List.getElem?_append, List.length_take, List.length_set, Array.length_toList, List.getElem?_take, List.getElem?_drop, List.getElem?_set]
    by_cases h1 : j < off + k
    · have : j < min (off + k) cells.size := by omega
      have h3 : j < min (off + (k + 1)) cells.size := by omega
      have h4 : ¬ off + k = j := by omega
      simp [this, h3, h1, h4]; omega
    · by_cases h2 : j = off + k
      · subst h2
        have h3 : off + k < min (off + (k + 1)) cells.size := by omega
        have h4 : ¬ off + k < min (off + k) cells.size := by omega
        have h5 : off + k - min (off + k) cells.size = 0 := by omega
        have h6 : off + k < cells.size := by omega
        simp [h3, h4, h5, h6]
      · have h3 : ¬ j < min (off + (k + 1)) cells.size := by omega
        have h4 : ¬ j < min (off + k) cells.size := by omega
        have e1 : min (off + (k + 1)) cells.size = off + k + 1 := by omega
        have e2 : min (off + k) cells.size = off + k := by omega
        rw [e1] at h3 ⊢
        rw [e2] at h4 ⊢
        simp only [h3, h4, if_false]
        obtain ⟨m, rfl⟩ : ∃ m, j = off + k + 1 + m := ⟨j - (off + k + 1), by omega⟩
        have e3 : off + k + 1 + m - (off + k + 1) = m := by omega
        have e4 : off + k + 1 + m - (off + k) = m + 1 := by omega
        rw [e3, e4]
        simp only [List.getElem?_cons_succ, List.length_cons]
        by_cases h7 : m < r.length
        · have h8 : m + 1 < r.length + 1 := by omega
          simp [h7, h8]
        · have h8 : ¬ m + 1 < r.length + 1 := by omega
          have h9 : ¬ off + k = off + (k + 1) + r.length + (m - r.length) := by omega
          have e5 : off + (k + 1) + r.length + (m - r.length) = off + k + (r.length + 1) + (m + 1 - (r.length + 1)) := by omega
          simp only [h7, h8, if_false, h9]
          rw [e5]

theorem fill_step (off : Nat) (cells vs : Array Value) (h : off + vs.size ≤ cells.size) :
    (vs.zipIdx.foldl (fun cs (p : Value × Nat) => cs.setIfInBounds (off + p.2) p.1) cells).toList = cells.toList.take off ++ vs.toList ++ cells.toList.drop (off + vs.toList.length) := by
  have := foldl_set vs.toList 0 off cells (by simpa using h)
  rw [← Array.foldl_toList, Array.toList_zipIdx]
  simpa using this

theorem fill_sound {g : Gh} {w : World} {place : Nat → Option (Nat × Nat)} : ∀ {ps : List (Nat × AV)} {qs : List (Nat × Value)} {cells r : List AV} {cs : Array Value},
    fillA place cells ps = some r → RepAll g w cells cs.toList → PRep g w ps qs → ∃ out, Instr.fill place cs qs = some out ∧ RepAll g w r out.toList
  | [], qs, cells, r, cs, h, hc, hp => by
    simp only [PRep] at hp; subst hp
    simp only [fillA, Option.some.injEq] at h; subst h
    exact ⟨cs, rfl, hc⟩
  | (i, a) :: rest, qs, cells, r, cs, h, hc, hp => by
    simp only [PRep] at hp
    obtain ⟨v, q, rfl, hv, hq⟩ := hp
    simp only [fillA] at h
    split at h
    · cases h
    · rename_i off size hpl
      split at h
      · rename_i h1
        split at h
        · rename_i h2
          have h1 := Nat.eq_of_beq_eq_true h1
          have h2 := Nat.le_of_ble_eq_true h2
          have hcv := cellsA_rep hv
          have l1 : v.cells.size = size := by have := hcv.length; simp only [Array.length_toList] at this; omega
          have l2 : cs.size = cells.length := by have := hc.length; simpa using this
          have hle : off + v.cells.size ≤ cs.size := by omega
          have hs := fill_step off cs v.cells hle
          have hset := setAt_rep hc hcv off
          rw [← hs] at hset
          obtain ⟨out, ho, hr⟩ := fill_sound h hset hq
          refine ⟨out, ?_, hr⟩
          have c1 : (v.cells.size ≠ size || off + v.cells.size > cs.size) = false := by simp; omega
          simp only [Instr.fill, hpl]
          rw [c1]
          exact ho
        · cases h
      · cases h

/-- What an operand holds. -/
def EvOk (g : Gh) (w : World) (ev : Operand → Option AV) (ρ : Operand → Value) : Prop := ∀ x a, ev x = some a → Rep g w a (ρ x)

theorem EvOk.ext {g g' : Gh} {w w' : World} {ev : Operand → Option AV} {ρ : Operand → Value} (h : EvOk g w ev ρ) (e : Ext g w g' w') : EvOk g' w' ev ρ := fun x a hx => (h x a hx).ext e

def evParts (ev : Operand → Option AV) : List (Nat × Operand) → Option (List (Nat × AV))
  | [] => some []
  | (i, x) :: r => match ev x with
    | some a => match evParts ev r with
      | some q => some ((i, a) :: q)
      | none => none
    | none => none
theorem evParts_rep {g : Gh} {w : World} {ev : Operand → Option AV} {ρ : Operand → Value} (h : EvOk g w ev ρ) : ∀ {l : List (Nat × Operand)} {ps : List (Nat × AV)}, evParts ev l = some ps → PRep g w ps (l.map fun p => (p.1, ρ p.2))
  | [], ps, hp => by simp only [evParts, Option.some.injEq] at hp; subst hp; simp [PRep]
  | (i, x) :: r, ps, hp => by
    simp only [evParts] at hp
    split at hp
    · rename_i a ha
      split at hp
      · rename_i q hq
        cases hp
        simp only [PRep, List.map_cons]
        exact ⟨ρ x, _, rfl, h x a ha, evParts_rep h hq⟩
      · cases hp
    · cases hp

def evList (ev : Operand → Option AV) : List Operand → Option (List AV)
  | [] => some []
  | x :: r => match ev x with
    | some a => match evList ev r with
      | some q => some (a :: q)
      | none => none
    | none => none
theorem evList_rep {g : Gh} {w : World} {ev : Operand → Option AV} {ρ : Operand → Value} (h : EvOk g w ev ρ) : ∀ {l : List Operand} {ps : List AV}, evList ev l = some ps → RepAll g w ps (l.map ρ)
  | [], ps, hp => by simp only [evList, Option.some.injEq] at hp; subst hp; simp [RepAll]
  | x :: r, ps, hp => by
    simp only [evList] at hp
    split at hp
    · rename_i a ha
      split at hp
      · rename_i q hq
        cases hp
        simp only [RepAll, List.map_cons]
        exact ⟨ρ x, _, rfl, h x a ha, evList_rep h hq⟩
      · cases hp
    · cases hp

def evOpt (ev : Operand → Option AV) : Option Operand → Option (Option AV)
  | none => some none
  | some x => match ev x with
    | some a => some (some a)
    | none => none
def ORepO (g : Gh) (w : World) : Option AV → Option Value → Prop
  | none, v => v = none
  | some a, v => ∃ u, v = some u ∧ Rep g w a u
theorem evOpt_rep {g : Gh} {w : World} {ev : Operand → Option AV} {ρ : Operand → Value} (h : EvOk g w ev ρ) {x : Option Operand} {r : Option AV} (hx : evOpt ev x = some r) : ORepO g w r (x.map ρ) := by
  cases x with
  | none => simp only [evOpt, Option.some.injEq] at hx; subst hx; rfl
  | some x =>
    simp only [evOpt] at hx
    split at hx
    · rename_i a ha; cases hx; exact ⟨_, rfl, h x a ha⟩
    · cases hx

/-- A literal of a struct or an array. -/
def placesL (P : Program) : List Field → Option (List (Nat × Nat))
  | [] => some []
  | f :: r => match szOf P f.type with
    | some k => match placesL P r with
      | some q => some ((f.offset, k) :: q)
      | none => none
    | none => none
theorem placesL_eq {P : Program} : ∀ {fs : List Field} {q : List (Nat × Nat)}, placesL P fs = some q → fs.mapM (fun f => (P.info? f.type).map fun i => (f.offset, i.size)) = some q
  | [], q, h => by simp only [placesL, Option.some.injEq] at h; subst h; rfl
  | f :: r, q, h => by
    simp only [placesL] at h
    split at h
    · rename_i k hk
      split at h
      · rename_i q' hq
        cases h
        obtain ⟨i, hi, rfl⟩ := Option.map_eq_some_iff.1 hk
        simp [List.mapM_cons, hi, placesL_eq hq]
      · cases h
    · cases h

def zeroOf (P : Program) (t : TypeId) : Option Value := match P.info? t with
  | some i => i.zero
  | none => none
theorem yld_zeroValue {P : Program} {t : TypeId} {z : Value} (h : zeroOf P t = some z) : Yld P (zeroValue t) z := fun w => by
  unfold zeroOf at h
  split at h
  · rename_i i hi; simp [zeroValue, typeInfo, hi, h]
  · cases h

def zeroCellsA (z : Value) : List AV := z.cells.toList.map .val

def buildA (P : Program) (t : TypeId) (ps : List (Nat × AV)) : Option AV :=
  match zeroOf P t with
  | none => none
  | some z => match P.underlying t with
    | some (.struct fs) => match placesL P fs.toList with
      | some q => match fillA (fun i => q[i]?) (zeroCellsA z) ps with
        | some r => some (.agg r)
        | none => none
      | none => none
    | some (.array _ e) => match szOf P e with
      | some k => match fillA (fun i => some (i * k, k)) (zeroCellsA z) ps with
        | some r => some (.agg r)
        | none => none
      | none => none
    | _ => none

theorem build_sound {P : Program} {g : Gh} {w : World} {t : TypeId} {ps : List (Nat × AV)} {qs : Array (Nat × Value)} {r : AV} (h : buildA P t ps = some r) (hp : PRep g w ps qs.toList) :
    ∃ u, Yld P (Instr.build t qs) u ∧ Rep g w r u := by
  unfold buildA at h
  split at h
  · cases h
  · rename_i z hz
    have hz' := hz
    unfold zeroOf at hz
    split at hz
    · rename_i it hit
      split at h
      · rename_i fs hu
        split at h
        · rename_i q hq
          split at h
          · rename_i r' hf
            cases h
            obtain ⟨out, ho, hr⟩ := fill_sound (cs := z.cells) hf (repAll_vals _) hp
            refine ⟨.agg out, fun w' => run_build w' t qs out ?_, by simp only [Rep]; exact ⟨out.toList, rfl, hr⟩⟩
            simp only [Program.built, hit, hu, hz, placesL_eq hq]
            rw [← ho]
            congr 1
            funext i
            simp
          · cases h
        · cases h
      · rename_i n e hu
        split at h
        · rename_i k hk
          split at h
          · rename_i r' hf
            cases h
            obtain ⟨out, ho, hr⟩ := fill_sound (cs := z.cells) hf (repAll_vals _) hp
            obtain ⟨ie, hie, rfl⟩ := Option.map_eq_some_iff.1 hk
            refine ⟨.agg out, fun w' => run_build w' t qs out ?_, by simp only [Rep]; exact ⟨out.toList, rfl, hr⟩⟩
            simp only [Program.built, hit, hu, hz, hie]
            exact ho
          · cases h
        · cases h
      · cases h
    · cases hz

end Go.Am
