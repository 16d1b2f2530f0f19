import Derived.Test.YtcllfbhlnjgomaaGreatDoorAmA
set_option linter.unusedVariables false
set_option linter.unusedSimpArgs false
/-!
  THE ABSTRACT MACHINE, part B: its memory; what it stands for.
-/
namespace Go.Am
open Go Go.RowKit

/-- Temporaries: a trie. -/
inductive Tr where
  | leaf
  | node (v : AV) (l r : Tr)
  deriving Inhabited
def path : Nat → Nat → List Bool
  | 0, _ => []
  | k + 1, n => match n with
    | 0 => []
    | n + 1 => Nat.beq (n % 2) 1 :: path k (n / 2)
def Tr.getP : List Bool → Tr → AV
  | _, .leaf => .val undef
  | [], .node v _ _ => v
  | true :: p, .node _ _ r => Tr.getP p r
  | false :: p, .node _ l _ => Tr.getP p l
def Tr.setP (x : AV) : List Bool → Tr → Tr
  | [], .node _ l r => .node x l r
  | [], .leaf => .node x .leaf .leaf
  | true :: p, .node v l r => .node v l (Tr.setP x p r)
  | false :: p, .node v l r => .node v (Tr.setP x p l) r
  | true :: p, .leaf => .node (.val undef) .leaf (Tr.setP x p .leaf)
  | false :: p, .leaf => .node (.val undef) (Tr.setP x p .leaf) .leaf
def Tr.get (t : Tr) (n : Nat) : AV := Tr.getP (path 16 n) t
def Tr.set (t : Tr) (n : Nat) (x : AV) : Tr := Tr.setP x (path 16 n) t

theorem path_inj : ∀ (k n m : Nat), n < 2 ^ k → m < 2 ^ k → path k n = path k m → n = m
  | 0, n, m, hn, hm, _ => by simp at hn hm; omega
  | k + 1, 0, 0, _, _, _ => rfl
  | k + 1, 0, m + 1, _, _, h => by simp [path] at h
  | k + 1, n + 1, 0, _, _, h => by simp [path] at h
  | k + 1, n + 1, m + 1, hn, hm, h => by
    have hp : 2 ^ (k + 1) = 2 * 2 ^ k := by rw [Nat.pow_succ]; omega
    simp only [path, List.cons.injEq] at h
    obtain ⟨h1, h2⟩ := h
    have h3 := path_inj k (n / 2) (m / 2) (by omega) (by omega) h2
    have h4 : n % 2 = 1 ↔ m % 2 = 1 := by
      constructor
      · intro e; rw [e] at h1; exact Nat.eq_of_beq_eq_true h1.symm
      · intro e; rw [e] at h1; exact Nat.eq_of_beq_eq_true h1
    omega

theorem Tr.getP_leaf (p : List Bool) : Tr.getP p .leaf = .val undef := by cases p <;> rfl
theorem Tr.getP_setP (x : AV) : ∀ (q : List Bool) (t : Tr) (p : List Bool), Tr.getP p (Tr.setP x q t) = if p = q then x else Tr.getP p t
  | [], .leaf, [] => rfl
  | [], .leaf, true :: p => by simp [Tr.setP, Tr.getP]
  | [], .leaf, false :: p => by simp [Tr.setP, Tr.getP]
  | [], .node v l r, [] => rfl
  | [], .node v l r, true :: p => by simp [Tr.setP, Tr.getP]
  | [], .node v l r, false :: p => by simp [Tr.setP, Tr.getP]
  | true :: q, .leaf, [] => by simp [Tr.setP, Tr.getP]
  | false :: q, .leaf, [] => by simp [Tr.setP, Tr.getP]
  | true :: q, .leaf, true :: p => by simp [Tr.setP, Tr.getP, Tr.getP_setP x q .leaf p, Tr.getP_leaf]
  | true :: q, .leaf, false :: p => by simp [Tr.setP, Tr.getP]
  | false :: q, .leaf, true :: p => by simp [Tr.setP, Tr.getP]
  | false :: q, .leaf, false :: p => by simp [Tr.setP, Tr.getP, Tr.getP_setP x q .leaf p, Tr.getP_leaf]
  | true :: q, .node v l r, [] => by simp [Tr.setP, Tr.getP]
  | false :: q, .node v l r, [] => by simp [Tr.setP, Tr.getP]
  | true :: q, .node v l r, true :: p => by simp [Tr.setP, Tr.getP, Tr.getP_setP x q r p]
  | true :: q, .node v l r, false :: p => by simp [Tr.setP, Tr.getP]
  | false :: q, .node v l r, true :: p => by simp [Tr.setP, Tr.getP]
  | false :: q, .node v l r, false :: p => by simp [Tr.setP, Tr.getP, Tr.getP_setP x q l p]

theorem Tr.setP_comm (x y : AV) : ∀ (p q : List Bool) (t : Tr), p ≠ q → Tr.setP x p (Tr.setP y q t) = Tr.setP y q (Tr.setP x p t)
  | [], [], _, h => absurd rfl h
  | [], true :: q, .leaf, _ => rfl
  | [], false :: q, .leaf, _ => rfl
  | [], true :: q, .node v l r, _ => rfl
  | [], false :: q, .node v l r, _ => rfl
  | true :: p, [], .leaf, _ => rfl
  | false :: p, [], .leaf, _ => rfl
  | true :: p, [], .node v l r, _ => rfl
  | false :: p, [], .node v l r, _ => rfl
  | true :: p, false :: q, .leaf, _ => rfl
  | false :: p, true :: q, .leaf, _ => rfl
  | true :: p, false :: q, .node v l r, _ => rfl
  | false :: p, true :: q, .node v l r, _ => rfl
  | true :: p, true :: q, .leaf, h => by simp [Tr.setP, Tr.setP_comm x y p q .leaf (fun e => h (by rw [e]))]
  | false :: p, false :: q, .leaf, h => by simp [Tr.setP, Tr.setP_comm x y p q .leaf (fun e => h (by rw [e]))]
  | true :: p, true :: q, .node v l r, h => by simp [Tr.setP, Tr.setP_comm x y p q r (fun e => h (by rw [e]))]
  | false :: p, false :: q, .node v l r, h => by simp [Tr.setP, Tr.setP_comm x y p q l (fun e => h (by rw [e]))]

theorem Tr.get_set {t : Tr} {n k : Nat} {x : AV} (hn : n < 65536) (hk : k < 65536) : (t.set n x).get k = if k = n then x else t.get k := by
  unfold Tr.get Tr.set
  rw [Tr.getP_setP]
  by_cases e : k = n
  · subst e; simp
  · have : path 16 k ≠ path 16 n := fun h => e (path_inj 16 k n hk hn h)
    simp [this, e]
theorem Tr.set_comm {t : Tr} {n k : Nat} {x y : AV} (hn : n < 65536) (hk : k < 65536) (h : n ≠ k) : (t.set k y).set n x = (t.set n x).set k y :=
  Tr.setP_comm x y _ _ t (fun e => h (path_inj 16 n k hn hk e))

/-- The temporaries are as the trie says. -/
def TmOk (g : Gh) (w : World) (N : Nat) (t : Tr) (vs : Array Value) : Prop := vs.size = N ∧ ∀ k u, vs[k]? = some u → Rep g w (t.get k) u

theorem TmOk.ext {g g' : Gh} {w w' : World} {N : Nat} {t : Tr} {vs : Array Value} (h : TmOk g w N t vs) (e : Ext g w g' w') : TmOk g' w' N t vs := ⟨h.1, fun k u hk => (h.2 k u hk).ext e⟩

theorem TmOk.set {g : Gh} {w : World} {N d : Nat} {t : Tr} {vs : Array Value} {x : AV} {v : Value} (h : TmOk g w N t vs) (hN : N ≤ 65536) (hd : d < N) (hx : Rep g w x v) : TmOk g w N (t.set d x) (vs.setIfInBounds d v) := by
  refine ⟨by rw [Array.size_setIfInBounds]; exact h.1, fun k u hk => ?_⟩
  have hlt : k < vs.size := by
    have := (Array.getElem?_eq_some_iff.1 hk).1
    rwa [Array.size_setIfInBounds] at this
  rw [h.1] at hlt
  rw [Tr.get_set (by omega) (by omega)]
  rw [Array.getElem?_setIfInBounds] at hk
  by_cases e : d = k
  · subst e
    have : d < vs.size := by rw [h.1]; exact hd
    simp [this] at hk
    subst hk
    simp [hx]
  · have e' : ¬ k = d := fun h => e h.symm
    simp only [e, if_false] at hk
    simp only [e', if_false]
    exact h.2 k u hk

inductive AObj where
  | cells (cs : List AV) (t : TypeId)
  | map (kk : IntKind) (es : List (Int × AV))
  | loop (state : LoopState) (pending : Option Code) (n : Nat) (tmps : Tr) (params : Array Tmp) (assign body : Code)
  | mark
  | gone
  deriving Inhabited

structure St where
  next : Nat
  objs : List (Nat × AObj)
  toks : List (Nat × Nat)
  deriving Inhabited

def lookL {α : Type} (i : Nat) : List (Nat × α) → Option α
  | [] => none
  | (j, o) :: r => if Nat.beq i j then some o else lookL i r
def putL {α : Type} (i : Nat) (o : α) : List (Nat × α) → List (Nat × α)
  | [] => []
  | (j, x) :: r => if Nat.beq i j then (j, o) :: r else (j, x) :: putL i o r

theorem beq_ne {i j : Nat} (h : i ≠ j) : Nat.beq i j = false := by
  rw [← Bool.not_eq_true]; intro e; exact h (Nat.eq_of_beq_eq_true e)

theorem lookL_putL {α : Type} {i : Nat} {o o' : α} : ∀ {l : List (Nat × α)}, lookL i l = some o' → ∀ k, lookL k (putL i o l) = if k = i then some o else lookL k l
  | [], h, k => by simp [lookL] at h
  | (j, x) :: r, h, k => by
    simp only [lookL] at h
    by_cases e : i = j
    · subst e
      have hb : Nat.beq i i = true := Nat.beq_refl i
      simp only [putL, hb, if_true, lookL]
      by_cases ek : k = i
      · subst ek; simp [hb]
      · have : Nat.beq k i = false := beq_ne ek
        simp [this, ek]
    · have hb : Nat.beq i j = false := beq_ne e
      rw [hb] at h
      simp only [Bool.false_eq_true, if_false] at h
      simp only [putL, hb, Bool.false_eq_true, if_false, lookL]
      by_cases ekj : k = j
      · subst ekj
        have hk : Nat.beq k k = true := Nat.beq_refl k
        have hne : k ≠ i := fun e2 => e e2.symm
        simp [hk, hne]
      · have hk : Nat.beq k j = false := beq_ne ekj
        rw [hk]
        simp only [Bool.false_eq_true, if_false]
        exact lookL_putL h k

theorem lookL_cons {α : Type} (i k : Nat) (o : α) (l : List (Nat × α)) : lookL k ((i, o) :: l) = if k = i then some o else lookL k l := by
  simp only [lookL]
  by_cases e : k = i
  · subst e; simp
  · have : Nat.beq k i = false := beq_ne e
    simp [this, e]

/-- In its place: the greater ids first. -/
def insL {α : Type} (i : Nat) (o : α) : List (Nat × α) → List (Nat × α)
  | [] => [(i, o)]
  | (j, x) :: r => if Nat.blt i j then (j, x) :: insL i o r else (i, o) :: (j, x) :: r
theorem lookL_insL {α : Type} (i : Nat) (o : α) : ∀ (l : List (Nat × α)) (k : Nat), lookL k (insL i o l) = if k = i then some o else lookL k l
  | [], k => lookL_cons i k o []
  | (j, x) :: r, k => by
    simp only [insL]
    split
    · rename_i h
      rw [lookL_cons, lookL_cons, lookL_insL i o r k]
      have : i < j := by rw [Nat.blt_eq] at h; exact h
      by_cases e : k = j
      · have : ¬ k = i := by omega
        simp [e]; omega
      · simp [e]
    · exact lookL_cons i k o _

def St.get (s : St) (i : Nat) : Option AObj := lookL i s.objs
def St.tok (s : St) (t : Nat) : Option Nat := lookL t s.toks
def St.put (s : St) (i : Nat) (o : AObj) : St := { s with objs := putL i o s.objs }
def St.add (s : St) (i : Nat) (o : AObj) : St := { s with objs := insL i o s.objs }
def St.addT (s : St) (t n : Nat) : St := { s with toks := insL t n s.toks }
def St.putT (s : St) (t n : Nat) : St := { s with toks := putL t n s.toks }

/-- Looking a number up. -/
def findI (n : Int) : List (Int × AV) → Option AV
  | [] => none
  | (m, a) :: r => if n = m then some a else findI n r
/-- The first entry at a number's key: where it lies, what it holds. -/
def getI (n : Int) : List MapEntry → Nat → Option (Nat × Value)
  | [], _ => none
  | e :: r, i => match e.key with
    | .int _ m => if n = m then some (i, e.val) else getI n r (i + 1)
    | _ => getI n r (i + 1)

def VRep (g : Gh) (w : World) : Option AV → Option (Nat × Value) → Prop
  | none, v => v = none
  | some a, v => ∃ i u, v = some (i, u) ∧ Rep g w a u
theorem VRep.ext {g g' : Gh} {w w' : World} (e : Ext g w g' w') {a : Option AV} {v : Option (Nat × Value)} (h : VRep g w a v) : VRep g' w' a v := by
  cases a with
  | none => exact h
  | some a => obtain ⟨i, u, h1, h2⟩ := h; exact ⟨i, u, h1, h2.ext e⟩

def MRep (g : Gh) (w : World) (kk : IntKind) (es : List (Int × AV)) (ms : List MapEntry) : Prop :=
  (∀ e ∈ ms, ∃ n, e.key = .int kk n) ∧ ∀ n, VRep g w (findI n es) (getI n ms 0)

theorem MRep.ext {g g' : Gh} {w w' : World} (e : Ext g w g' w') {kk : IntKind} {es : List (Int × AV)} {ms : List MapEntry} (h : MRep g w kk es ms) : MRep g' w' kk es ms := ⟨h.1, fun n => (h.2 n).ext e⟩

def ORep (g : Gh) (w : World) : AObj → Option Obj → Prop
  | .cells cs t, h => ∃ vs, h = some (.cells vs.toArray t (0, 0)) ∧ RepAll g w cs vs
  | .map kk es, h => ∃ ms clock, h = some (.map ms clock) ∧ MRep g w kk es ms.toList
  | .loop state pending n tmps params assign body, h => ∃ fn defers vs, h = some (.loop { state, pending, fn, tmps := vs, params, assign, body, defers }) ∧ TmOk g w n tmps vs
  | .mark, h => h = some (.deferred (some []))
  | .gone, h => ∃ x, h = some x

theorem ORep.ext {g g' : Gh} {w w' : World} (e : Ext g w g' w') : ∀ {o : AObj} {h : Option Obj}, ORep g w o h → ORep g' w' o h
  | .cells cs t, h, ⟨vs, h1, h2⟩ => ⟨vs, h1, RepAll.ext e h2⟩
  | .map kk es, h, ⟨ms, c, h1, h2⟩ => ⟨ms, c, h1, h2.ext e⟩
  | .loop .., h, ⟨fn, d, vs, h1, h2⟩ => ⟨fn, d, vs, h1, h2.ext e⟩
  | .mark, h, k => k
  | .gone, h, k => k

/-- What a list that may grow is. -/
structure TokOk (g : Gh) (w : World) (i : TokI) : Prop where
  old : g.base ≤ i.b
  cells : ∃ C T, w.heap[i.b]? = some (.cells C T (0, 0)) ∧ C.size = i.o + i.cap * i.size
  room : i.n ≤ i.cap
  most : i.cap ≤ maxLen
  spare : ∀ j, i.o + i.n * i.size ≤ j → ¬ g.fix i.b j

/-- The abstract memory s stands for the world w. -/
structure Rel (g : Gh) (s : St) (w : World) : Prop where
  top : g.base ≤ w.heap.size
  objs : ∀ i o, s.get i = some o → g.use i ∧ g.base ≤ g.blk i ∧ ORep g w o w.heap[g.blk i]?
  used : ∀ i, g.use i → (s.get i).isSome = true
  inj : ∀ i j, g.use i → g.use j → g.blk i = g.blk j → i = j
  free : ∀ i, g.use i → ∀ j, ¬ g.fix (g.blk i) j
  toks : ∀ t n, s.tok t = some n → g.tuse t ∧ (g.tok t).n = n ∧ TokOk g w (g.tok t)
  tused : ∀ t, g.tuse t → (s.tok t).isSome = true
  tinj : ∀ t u, g.tuse t → g.tuse u → (g.tok t).b = (g.tok u).b → t = u
  apart : ∀ i t, g.use i → g.tuse t → g.blk i ≠ (g.tok t).b
  fixs : ∀ b j, g.fix b j → b < w.heap.size

theorem ORep.lt {g : Gh} {w : World} {o : AObj} {k : Nat} (h : ORep g w o w.heap[k]?) : k < w.heap.size := by
  have : ∃ x, w.heap[k]? = some x := by
    cases o with
    | cells cs t => obtain ⟨vs, h1, _⟩ := h; exact ⟨_, h1⟩
    | map es => obtain ⟨ms, c, h1, _⟩ := h; exact ⟨_, h1⟩
    | loop => obtain ⟨fn, d, vs, h1, _⟩ := h; exact ⟨_, h1⟩
    | mark => exact ⟨_, h⟩
    | gone => exact h
  obtain ⟨x, hx⟩ := this
  exact (Array.getElem?_eq_some_iff.1 hx).1

theorem Rel.blk_lt {g : Gh} {s : St} {w : World} (h : Rel g s w) {i : Nat} (hi : g.use i) : g.blk i < w.heap.size := by
  have h1 := h.used i hi
  obtain ⟨o, ho⟩ := Option.isSome_iff_exists.1 h1
  exact (h.objs i o ho).2.2.lt

theorem Rel.tok_of {g : Gh} {s : St} {w : World} (h : Rel g s w) {t : Nat} (ht : g.tuse t) : TokOk g w (g.tok t) := by
  obtain ⟨n, hn⟩ := Option.isSome_iff_exists.1 (h.tused t ht)
  exact (h.toks t n hn).2.2
theorem Rel.tok_lt {g : Gh} {s : St} {w : World} (h : Rel g s w) {t : Nat} (ht : g.tuse t) : (g.tok t).b < w.heap.size := by
  obtain ⟨C, T, h1, _⟩ := (h.tok_of ht).cells
  exact (Array.getElem?_eq_some_iff.1 h1).1

/-- Only the block k has turned (or blocks have come). -/
structure But (k : Nat) (w w' : World) : Prop where
  os : w'.os = w.os
  tape : w'.tape = w.tape
  output : w'.output = w.output
  size : w.heap.size ≤ w'.heap.size
  block : ∀ j, j < w.heap.size → j ≠ k → w'.heap[j]? = w.heap[j]?

theorem But.cell {k : Nat} {w w' : World} (h : But k w w') {b j : Nat} (hb : b < w.heap.size) (hk : b ≠ k) : w'.cell? ⟨b, j, none⟩ = w.cell? ⟨b, j, none⟩ :=
  World.cell?_of_block (h.block b hb hk)

theorem But.below {k B : Nat} {w w' : World} (h : But k w w') (hB : B ≤ w.heap.size) (hk : B ≤ k) : Below B w w' :=
  ⟨h.os, h.tape, h.output, h.size, fun j hj => h.block j (Nat.lt_of_lt_of_le hj hB) (by omega)⟩

theorem Rel.ext_but {g : Gh} {s : St} {w w' : World} (h : Rel g s w) {i : Nat} {o : AObj} (hi : s.get i = some o) (hb : But (g.blk i) w w') : Ext g w g w' := by
  obtain ⟨hu, hbase, hor⟩ := h.objs i o hi
  refine ⟨rfl, hb.below h.top hbase, fun _ h => h, fun _ _ => rfl, fun _ _ h => h, fun _ _ _ h => h, fun b j hf => ?_, fun _ h => h, fun _ _ => .inl rfl⟩
  exact hb.cell (h.fixs b j hf) (fun e => h.free i hu j (by rw [← e]; exact hf))

/-- An object is written. -/
theorem Rel.write {g : Gh} {s : St} {w w' : World} (h : Rel g s w) {i : Nat} {o o' : AObj} (hi : s.get i = some o) (hb : But (g.blk i) w w') (ho : ORep g w o' w'.heap[g.blk i]?) :
    Ext g w g w' ∧ Rel g (s.put i o') w' := by
  obtain ⟨hu, hbase, hor⟩ := h.objs i o hi
  have ext : Ext g w g w' := by
    refine ⟨rfl, hb.below h.top hbase, fun _ h => h, fun _ _ => rfl, fun _ _ h => h, fun _ _ _ h => h, fun b j hf => ?_, fun _ h => h, fun _ _ => .inl rfl⟩
    exact hb.cell (h.fixs b j hf) (fun e => h.free i hu j (by rw [← e]; exact hf))
  refine ⟨ext, ⟨Nat.le_trans h.top hb.size, fun k x hk => ?_, fun k hk => ?_, h.inj, h.free, fun t n ht => ?_, h.tused, h.tinj, h.apart, fun b j hf => Nat.lt_of_lt_of_le (h.fixs b j hf) hb.size⟩⟩
  · have hk' : (if k = i then some o' else s.get k) = some x := by rw [← hk]; exact (lookL_putL hi k).symm
    split at hk'
    · rename_i e; subst e; cases hk'
      exact ⟨hu, hbase, ho.ext ext⟩
    · rename_i e
      obtain ⟨h1, h2, h3⟩ := h.objs k x hk'
      refine ⟨h1, h2, ?_⟩
      rw [hb.block _ h3.lt (fun e2 => e (h.inj k i h1 hu e2))]
      exact h3.ext ext
  · have : (s.put i o').get k = if k = i then some o' else s.get k := lookL_putL hi k
    rw [this]; split
    · rfl
    · exact h.used k hk
  · obtain ⟨h1, h2, h3⟩ := h.toks t n ht
    refine ⟨h1, h2, h3.old, ?_, h3.room, h3.most, h3.spare⟩
    rw [hb.block _ (h.tok_lt h1) (fun e => h.apart i t hu h1 e.symm)]
    exact h3.cells

theorem Rel.next {g : Gh} {s : St} {w : World} (h : Rel g s w) (n : Nat) : Rel g { s with next := n } w := ⟨h.top, h.objs, h.used, h.inj, h.free, h.toks, h.tused, h.tinj, h.apart, h.fixs⟩

end Go.Am
